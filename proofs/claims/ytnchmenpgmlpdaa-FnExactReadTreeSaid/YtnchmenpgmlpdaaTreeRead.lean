/- A tree read from its text: what both sides read; plain laws. -/
import Derived.Test.YtnchmenpgmlpdaaSeqPure
namespace Go.Proofs.Ytnchmenpgmlpdaa
open Go.RowKit

def resOf (ns : List Nat) (i : Nat) : Res := ⟨decide (ns.getD (5 * i) 0 = 1), (ns.getD (5 * i + 1) 0 : Int) - 1, ⟨(ns.getD (5 * i + 2) 0 : Int), (ns.getD (5 * i + 3) 0 : Int), (ns.getD (5 * i + 4) 0 : Int)⟩⟩
def buildTree (ns : List Nat) (k : Nat) : List Res := (List.range k).map (resOf ns)
def readTree (l : List UInt8) : Option (List Res) := (seqGo l 25).bind fun q => if showTree (buildTree q.1 5) = l then some (buildTree q.1 5) else none

def rRes (l : List UInt8) (a : Nat) (b : Bool) : Res × Nat × Bool :=
  let f := rFlag l a b
  let p := rNum l f.2.1 f.2.2
  let q1 := rNum l p.2.1 p.2.2
  let q2 := rNum l q1.2.1 q1.2.2
  let q3 := rNum l q2.2.1 q2.2.2
  (⟨f.1, (p.1 : Int) - 1, ⟨(q1.1 : Int), (q2.1 : Int), (q3.1 : Int)⟩⟩, q3.2.1, q3.2.2)
def rTree (l : List UInt8) : Nat → List Res × Nat × Bool
  | 0 => ([], 0, false)
  | k + 1 => ((rTree l k).1 ++ [(rRes l (rTree l k).2.1 (rTree l k).2.2).1], (rRes l (rTree l k).2.1 (rTree l k).2.2).2)

theorem buildTree_succ (ns : List Nat) (k : Nat) : buildTree ns (k + 1) = buildTree ns k ++ [resOf ns k] := by
  unfold buildTree; rw [List.range_succ, List.map_append]; rfl
theorem buildTree_len (ns : List Nat) (k : Nat) : (buildTree ns k).length = k := by simp [buildTree]
theorem resOf_append {ns ms : List Nat} {i : Nat} (h : 5 * i + 5 ≤ ns.length) : resOf (ns ++ ms) i = resOf ns i := by
  unfold resOf
  simp only [List.getD_eq_getElem?_getD]
  rw [List.getElem?_append_left (by omega), List.getElem?_append_left (by omega), List.getElem?_append_left (by omega), List.getElem?_append_left (by omega), List.getElem?_append_left (by omega)]
theorem buildTree_append {ns ms : List Nat} {k : Nat} (h : 5 * k ≤ ns.length) : buildTree (ns ++ ms) k = buildTree ns k := by
  unfold buildTree
  refine List.map_congr_left fun i hi => resOf_append ?_
  rw [List.mem_range] at hi
  omega
theorem seqGo_prefix {l : List UInt8} {m j : Nat} {ns : List Nat} {a : Nat} (h : seqGo l m = some (ns, a)) (hj : j ≤ m) : ∃ b, seqGo l j = some (ns.take j, b) := by
  induction m generalizing ns a with
  | zero =>
    obtain rfl : j = 0 := by omega
    exact ⟨0, by rw [seqGo]; simp⟩
  | succ m ih =>
    by_cases e : j = m + 1
    · subst e
      exact ⟨a, by rw [h, List.take_of_length_le (by rw [(seqGo_inv h).1]; exact Nat.le_refl _)]⟩
    · rw [seqGo] at h
      obtain ⟨⟨ms, b⟩, hq, h2⟩ := Option.bind_eq_some_iff.1 h
      obtain ⟨c, hc⟩ := ih hq (by omega)
      refine ⟨c, ?_⟩
      dsimp only at h2
      split at h2
      · cases h2
      · cases h2
        rw [hc, List.take_append_of_le_length (by rw [(seqGo_inv hq).1]; omega)]
theorem rFlag_ok {l : List UInt8} {a : Nat} {b : Bool} (h : (rFlag l a b).2.2 = false) : (rNum l a b).2.2 = false := by
  unfold rFlag at h
  simp only [Bool.or_eq_false_iff] at h
  exact h.1
theorem rNum_bad' {l : List UInt8} {a : Nat} {b : Bool} (h : (rNum l a b).2.2 = false) : b = false := by
  unfold rNum at h
  split at h
  · cases h
  · rename_i hc
    simp at hc
    exact hc.1
theorem rNum_eta (l : List UInt8) (a : Nat) (b : Bool) (h : (rNum l a b).2.2 = false) : rNum l a b = ((rNum l a b).1, (rNum l a b).2.1, false) := by
  rw [← h]
/-- Five numbers, read well. -/
theorem rRes_seq {l : List UInt8} {m a : Nat} {b : Bool} {ns : List Nat} (hs : seqGo l m = some (ns, a)) (h : (rRes l a b).2.2 = false) :
    b = false ∧ ∃ n0 n1 n2 n3 n4 : Nat, seqGo l (m + 5) = some (ns ++ [n0, n1, n2, n3, n4], (rRes l a b).2.1) ∧ (rRes l a b).1 = ⟨decide (n0 = 1), (n1 : Int) - 1, ⟨(n2 : Int), (n3 : Int), (n4 : Int)⟩⟩ := by
  unfold rRes at h ⊢
  dsimp only at h ⊢
  have h4 := rNum_bad' h
  have h3 := rNum_bad' h4
  have h2 := rNum_bad' h3
  have h1 := rNum_bad' h2
  have h0 := rFlag_ok h1
  have hb := rNum_bad' h0
  refine ⟨hb, (rNum l a b).1, _, _, _, _, ?_, rfl⟩
  have s1 := rNum_seq hs (rNum_eta l a b h0)
  have e1 : (rFlag l a b).2.1 = (rNum l a b).2.1 := rfl
  have s2 := rNum_seq s1 (show rNum l (rNum l a b).2.1 (rFlag l a b).2.2 = _ from rNum_eta _ _ _ h2)
  have s3 := rNum_seq s2 (rNum_eta _ _ _ h3)
  have s4 := rNum_seq s3 (rNum_eta _ _ _ h4)
  have s5 := rNum_seq s4 (rNum_eta _ _ _ h)
  rw [s5]
  simp [e1]
theorem rTree_seq {l : List UInt8} : ∀ {k : Nat}, (rTree l k).2.2 = false → ∃ ns, seqGo l (5 * k) = some (ns, (rTree l k).2.1) ∧ (rTree l k).1 = buildTree ns k
  | 0, _ => ⟨[], rfl, rfl⟩
  | k + 1, h => by
    rw [rTree] at h
    dsimp only at h
    have hb : (rTree l k).2.2 = false := by
      unfold rRes at h
      dsimp only at h
      exact rNum_bad' (rFlag_ok (rNum_bad' (rNum_bad' (rNum_bad' (rNum_bad' h)))))
    obtain ⟨ns, h1, h2⟩ := rTree_seq hb
    obtain ⟨_, n0, n1, n2, n3, n4, h3, h4⟩ := rRes_seq h1 h
    have hl := (seqGo_inv h1).1
    refine ⟨ns ++ [n0, n1, n2, n3, n4], by rw [show 5 * (k + 1) = 5 * k + 5 by omega, h3]; rfl, ?_⟩
    rw [rTree, buildTree_succ, buildTree_append (by omega), ← h2]
    dsimp only
    rw [h4]
    congr 2
    unfold resOf
    simp only [List.getD_eq_getElem?_getD]
    rw [List.getElem?_append_right (by omega), List.getElem?_append_right (by omega), List.getElem?_append_right (by omega), List.getElem?_append_right (by omega), List.getElem?_append_right (by omega), hl]
    have e0 : 5 * k - 5 * k = 0 := by omega
    have e1 : 5 * k + 1 - 5 * k = 1 := by omega
    have e2 : 5 * k + 2 - 5 * k = 2 := by omega
    have e3 : 5 * k + 3 - 5 * k = 3 := by omega
    have e4 : 5 * k + 4 - 5 * k = 4 := by omega
    rw [e0, e1, e2, e3, e4]
    rfl
theorem take5 {α : Type} (ns : List α) (k : Nat) (d : α) (h : k < ns.length) : ns.take (k + 1) = ns.take k ++ [ns.getD k d] := by
  rw [List.take_succ_eq_append_getElem h, List.getD_eq_getElem?_getD, List.getElem?_eq_getElem h]; rfl
theorem seq_rRes {l : List UInt8} {ns : List Nat} {a k b : Nat} (hs : seqGo l 25 = some (ns, a)) (hk : k < 5) (hf : ns.getD (5 * k) 0 ≤ 1) (hp : seqGo l (5 * k) = some (ns.take (5 * k), b)) :
    ∃ c, seqGo l (5 * (k + 1)) = some (ns.take (5 * (k + 1)), c) ∧ rRes l b false = (resOf ns k, c, false) := by
  have hl := (seqGo_inv hs).1
  obtain ⟨b1, p1⟩ := seqGo_prefix hs (show 5 * k + 1 ≤ 25 by omega)
  obtain ⟨b2, p2⟩ := seqGo_prefix hs (show 5 * k + 1 + 1 ≤ 25 by omega)
  obtain ⟨b3, p3⟩ := seqGo_prefix hs (show 5 * k + 2 + 1 ≤ 25 by omega)
  obtain ⟨b4, p4⟩ := seqGo_prefix hs (show 5 * k + 3 + 1 ≤ 25 by omega)
  obtain ⟨b5, p5⟩ := seqGo_prefix hs (show 5 * k + 4 + 1 ≤ 25 by omega)
  obtain ⟨n0, e0, r0⟩ := seq_rNum hp p1
  obtain ⟨n1, e1, r1⟩ := seq_rNum p1 p2
  obtain ⟨n2, e2, r2⟩ := seq_rNum p2 p3
  obtain ⟨n3, e3, r3⟩ := seq_rNum p3 p4
  obtain ⟨n4, e4, r4⟩ := seq_rNum p4 p5
  rw [take5 ns _ 0 (by omega)] at e0
  rw [take5 ns (5 * k + 1) 0 (by omega)] at e1
  rw [take5 ns (5 * k + 2) 0 (by omega)] at e2
  rw [take5 ns (5 * k + 3) 0 (by omega)] at e3
  rw [take5 ns (5 * k + 4) 0 (by omega)] at e4
  have f0 := List.append_cancel_left e0
  have f1 := List.append_cancel_left e1
  have f2 := List.append_cancel_left e2
  have f3 := List.append_cancel_left e3
  have f4 := List.append_cancel_left e4
  simp only [List.cons.injEq, and_true] at f0 f1 f2 f3 f4
  subst f0 f1 f2 f3 f4
  refine ⟨b5, by rw [show 5 * (k + 1) = 5 * k + 4 + 1 by omega]; exact p5, ?_⟩
  have hfl : rFlag l b false = (decide (ns.getD (5 * k) 0 = 1), b1, false) := by
    unfold rFlag
    rw [r0]
    simp only [Bool.false_or, Prod.mk.injEq, true_and, decide_eq_false_iff_not]
    omega
  unfold rRes
  dsimp only
  rw [hfl]
  dsimp only
  rw [r1]
  dsimp only
  rw [r2]
  dsimp only
  rw [r3]
  dsimp only
  rw [r4]
  rfl
theorem seq_rTree {l : List UInt8} {ns : List Nat} {a : Nat} (hs : seqGo l 25 = some (ns, a)) (hf : ∀ k, k < 5 → ns.getD (5 * k) 0 ≤ 1) : ∀ {k : Nat}, k ≤ 5 → ∃ b, seqGo l (5 * k) = some (ns.take (5 * k), b) ∧ rTree l k = (buildTree ns k, b, false)
  | 0, _ => ⟨0, by rw [Nat.mul_zero, List.take_zero]; rfl, rfl⟩
  | k + 1, hk => by
    obtain ⟨b, h1, h2⟩ := seq_rTree hs hf (k := k) (by omega)
    obtain ⟨c, h3, h4⟩ := seq_rRes hs (by omega) (hf k (by omega)) h1
    refine ⟨c, h3, ?_⟩
    rw [rTree, h2, buildTree_succ]
    dsimp only
    rw [h4]
theorem flagI_in (b : Bool) : flagI b = 0 ∨ flagI b = 1 := by cases b <;> simp [flagI]
/-- The numbers of a right tree. -/
def treeNats (t : List Res) : List Nat := t.flatMap fun x => (resNums x).map Int.toNat
theorem res_nats {t : List Res} (h : treeOk t = true) {k : Nat} {x : Res} (hx : t[k]? = some x) : ints ((resNums x).map Int.toNat) = resNums x ∧ ∀ n ∈ (resNums x).map Int.toNat, inVar n := by
  have hp := live_par h hx
  have hb := amtOk_iff.1 ((tree_places h).2 k x hx).1
  have hf := flagI_in x.live
  unfold resNums ints inVar
  simp only [List.map_cons, List.map_nil, List.cons.injEq, and_true, List.mem_cons, List.not_mem_nil, or_false, forall_eq_or_imp, forall_eq]
  omega
theorem treeShow_nats {t : List Res} (h : treeOk t = true) : treeShow t = varsL (ints (treeNats t)) ∧ (∀ n ∈ treeNats t, inVar n) ∧ (treeNats t).length = 25 := by
  have key : ∀ (u : List Res), (∀ x ∈ u, ints ((resNums x).map Int.toNat) = resNums x ∧ ∀ n ∈ (resNums x).map Int.toNat, inVar n) → treeShow u = varsL (ints (treeNats u)) ∧ (∀ n ∈ treeNats u, inVar n) ∧ (treeNats u).length = 5 * u.length := by
    intro u
    induction u with
    | nil => intro _; exact ⟨by simp [treeShow, treeNats, ints, varsL], by simp [treeNats], by simp [treeNats]⟩
    | cons y u ih =>
      intro hu
      obtain ⟨h1, h2⟩ := hu y (List.mem_cons_self ..)
      obtain ⟨i1, i2, i3⟩ := ih fun x hx => hu x (List.mem_cons_of_mem _ hx)
      refine ⟨?_, ?_, ?_⟩
      · show resShow y ++ treeShow u = _
        have : ints (treeNats (y :: u)) = resNums y ++ ints (treeNats u) := by
          unfold treeNats
          rw [List.flatMap_cons]
          unfold ints at *
          rw [List.map_append, h1]
        rw [this, i1]
        unfold varsL resShow varsL
        rw [List.flatMap_append]
      · intro n hn
        unfold treeNats at hn
        rw [List.flatMap_cons] at hn
        rcases List.mem_append.1 hn with hn | hn
        · exact h2 n hn
        · exact i2 n hn
      · unfold treeNats at *
        rw [List.flatMap_cons, List.length_append, i3, List.length_cons]
        simp [resNums]
        omega
  have h5 := (tree_parts h).1
  obtain ⟨k1, k2, k3⟩ := key t fun x hx => by
    obtain ⟨k, hk⟩ := List.mem_iff_getElem?.1 hx
    exact res_nats h hk
  exact ⟨k1, k2, by rw [k3, h5]⟩
theorem treeNats_flag {t : List Res} (h5 : t.length = 5) {k : Nat} (hk : k < 5) : (treeNats t).getD (5 * k) 0 ≤ 1 := by
  obtain ⟨x0, x1, x2, x3, x4, rfl⟩ := five h5
  have h0 := flagI_in x0.live
  have h1 := flagI_in x1.live
  have h2 := flagI_in x2.live
  have h3 := flagI_in x3.live
  have h4 := flagI_in x4.live
  match k, hk with
  | 0, _ => show (flagI x0.live).toNat ≤ 1; omega
  | 1, _ => show (flagI x1.live).toNat ≤ 1; omega
  | 2, _ => show (flagI x2.live).toNat ≤ 1; omega
  | 3, _ => show (flagI x3.live).toNat ≤ 1; omega
  | 4, _ => show (flagI x4.live).toNat ≤ 1; omega
theorem show_ne {l : List UInt8} {ns : List Nat} {a : Nat} {t : List Res} (hs : seqGo l 25 = some (ns, a)) (h : showTree t = l) : treeOk t = true ∧ treeShow t = l := by
  unfold showTree at h
  cases hok : treeOk t
  · rw [hok, if_neg (by decide)] at h
    subst h
    obtain ⟨_, h2, _, _, h5⟩ := seqGo_inv hs
    simp at h2
    omega
  · rw [hok, if_pos rfl] at h
    exact ⟨rfl, h⟩
/-- What the program's reader makes of a text is what the reference's makes of it. -/
theorem readTree_impl (l : List UInt8) : readTree l = if (!(rTree l 5).2.2 && (treeOk (rTree l 5).1 && decide (showTree (rTree l 5).1 = l))) = true then some (rTree l 5).1 else none := by
  unfold readTree
  cases hb : (rTree l 5).2.2
  · obtain ⟨ns, h1, h2⟩ := rTree_seq hb
    rw [show 5 * 5 = 25 from rfl] at h1
    rw [h1, h2]
    simp only [Option.bind_some, Bool.not_false, Bool.true_and]
    by_cases hs : showTree (buildTree ns 5) = l
    · rw [if_pos hs, (show_ne h1 hs).1, decide_eq_true hs]; rfl
    · rw [if_neg hs, decide_eq_false hs, Bool.and_false]; rfl
  · rw [if_neg (by simp)]
    cases hq : seqGo l 25 with
    | none => rfl
    | some q =>
      obtain ⟨ns, a⟩ := q
      simp only [Option.bind_some]
      by_cases hs : showTree (buildTree ns 5) = l
      · exfalso
        obtain ⟨h1, h2⟩ := show_ne hq hs
        obtain ⟨k1, k2, k3⟩ := treeShow_nats h1
        have h3 := seqGo_show l (treeNats (buildTree ns 5)) [] [] (by rw [List.append_nil, List.append_nil, ← k1, h2]) k2
        rw [k3, hq] at h3
        simp only [Option.some.injEq, Prod.mk.injEq] at h3
        obtain ⟨b, _, h4⟩ := seq_rTree hq (fun k hk => by rw [h3.1]; exact treeNats_flag (buildTree_len _ _) hk) (k := 5) (Nat.le_refl _)
        rw [h4] at hb
        cases hb
      · rw [if_neg hs]
theorem readTree_ok {l : List UInt8} {t : List Res} (h : readTree l = some t) : treeOk t = true ∧ treeShow t = l ∧ t.length = 5 := by
  unfold readTree at h
  obtain ⟨⟨ns, a⟩, hq, h2⟩ := Option.bind_eq_some_iff.1 h
  dsimp only at h2
  split at h2
  · rename_i hs
    cases h2
    obtain ⟨h3, h4⟩ := show_ne hq hs
    exact ⟨h3, h4, (tree_parts h3).1⟩
  · cases h2
end Go.Proofs.Ytnchmenpgmlpdaa
