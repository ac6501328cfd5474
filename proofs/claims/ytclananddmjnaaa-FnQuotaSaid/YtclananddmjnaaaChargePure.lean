/- Room, Charge, Refund, QuotaAdd: what they compute; the copies. -/
import Derived.Test.YtclananddmjnaaaOwnUse
import Derived.Test.YtclananddmjnaaaApp
namespace Go.Proofs.Ytclananddmjnaaa
open Go.RowKit

def roomGo (l : List Node) : Nat → Int → Int → Int
  | 0, _, acc => acc
  | f + 1, i, acc => if i < 0 then acc else
    match l[i.toNat]? with
    | none => acc
    | some x => roomGo l f x.p (min acc (x.l - x.u))
theorem roomGo_end (l : List Node) (f : Nat) {i : Int} (acc : Int) (h : i < 0) : roomGo l f i acc = acc := by
  cases f with
  | zero => rfl
  | succ f => rw [roomGo, if_pos h]
theorem roomGo_at {l : List Node} {k : Nat} {x : Node} (f : Nat) (acc : Int) (hx : l[k]? = some x) : roomGo l (f + 1) (k : Int) acc = roomGo l f x.p (min acc (x.l - x.u)) := by
  rw [roomGo, if_neg (by omega), Int.toNat_natCast, hx]
def room (l : List Node) (i : Int) : Int := if hasQ l i = true then roomGo l 9 i ((l.getD i.toNat ⟨0, 0, 0⟩).l - (l.getD i.toNat ⟨0, 0, 0⟩).u) else 0
theorem room_at {l : List Node} {k : Nat} {x : Node} (h : hasQ l (k : Int) = true) (hx : l[k]? = some x) : room l (k : Int) = roomGo l 9 (k : Int) (x.l - x.u) := by
  rw [room, if_pos h, List.getD_eq_getElem?_getD, Int.toNat_natCast, hx]; rfl
theorem room_no {l : List Node} {i : Int} (h : hasQ l i = false) : room l i = 0 := by rw [room, if_neg (by simp [h])]

theorem node_up {l : List Node} (h : nodesOk l = true) {k : Nat} {x : Node} (hx : l[k]? = some x) : -1 ≤ x.p ∧ x.p < (k : Int) ∧ 0 ≤ x.l - x.u ∧ x.l - x.u ≤ 1000000 ∧ 0 ≤ x.u ∧ x.u ≤ 1000000 ∧ x.l ≤ 1000000 := by
  unfold nodesOk quotaHead at h
  simp only [Bool.and_eq_true, decide_eq_true_eq] at h
  have hn := allFrom_get h.2 hx
  simp only [nodeOk, Bool.and_eq_true, Bool.or_eq_true, decide_eq_true_eq, inB_true] at hn
  obtain ⟨h1, h2, h3, h4⟩ := hn
  rcases h1 with h0 | h1
  · have : k = 0 := by omega
    subst this
    have hp := h.1.2
    cases l with
    | nil => simp at hx
    | cons y l => simp at hx hp; subst hx; omega
  · omega

def chargeGo (l : List Node) (n : Int) : Nat → Int → List Node → List Node
  | 0, _, acc => acc
  | f + 1, i, acc => if i < 0 then acc else
    match l[i.toNat]? with
    | none => acc
    | some x => chargeGo l n f x.p (acc.set i.toNat ⟨x.p, x.l, x.u + n⟩)
theorem chargeGo_end (l : List Node) (n : Int) (f : Nat) {i : Int} (acc : List Node) (h : i < 0) : chargeGo l n f i acc = acc := by
  cases f with
  | zero => rfl
  | succ f => rw [chargeGo, if_pos h]
theorem chargeGo_at {l : List Node} {k : Nat} {x : Node} (n : Int) (f : Nat) (acc : List Node) (hx : l[k]? = some x) : chargeGo l n (f + 1) (k : Int) acc = chargeGo l n f x.p (acc.set k ⟨x.p, x.l, x.u + n⟩) := by
  rw [chargeGo, if_neg (by omega), Int.toNat_natCast, hx]
theorem chargeGo_len (l : List Node) (n : Int) : ∀ (f : Nat) (i : Int) (acc : List Node), (chargeGo l n f i acc).length = acc.length
  | 0, _, _ => rfl
  | f + 1, i, acc => by
    rw [chargeGo]
    split
    · rfl
    · split
      · rfl
      · rw [chargeGo_len l n f, List.length_set]
def charged (l : List Node) (i n : Int) : List Node := chargeGo l n 9 i l
theorem charged_len (l : List Node) (i n : Int) : (charged l i n).length = l.length := chargeGo_len _ _ _ _ _
def charge (l : List Node) (i n : Int) : List Node × Bool := if (hasQ l i && inB n 0 (room l i)) = true then (charged l i n, true) else (l, false)
def refund (l : List Node) (i n : Int) : List Node × Bool := if (hasQ l i && inB n 0 (ownUse l i)) = true then (charged l i (-n), true) else (l, false)
def quotaAdd (l : List Node) (p q : Int) : List Node × Bool := if (quotaOk l && quotaOk (l ++ [(⟨p, q, 0⟩ : Node)])) = true then (l ++ [(⟨p, q, 0⟩ : Node)], true) else (l, false)
theorem charge_len (l : List Node) (i n : Int) : (charge l i n).1.length = l.length := by unfold charge; split <;> simp [charged_len]
theorem refund_len (l : List Node) (i n : Int) : (refund l i n).1.length = l.length := by unfold refund; split <;> simp [charged_len]
theorem quotaAdd_len (l : List Node) (p q : Int) : (quotaAdd l p q).1.length ≤ l.length + 1 := by unfold quotaAdd; split <;> simp
theorem quotaAdd_ge (l : List Node) (p q : Int) : l.length ≤ (quotaAdd l p q).1.length := by unfold quotaAdd; split <;> simp
/-- What was not come to yet is as it was. -/
def Same (l acc : List Node) (i : Int) : Prop := acc.length = l.length ∧ ∀ j : Nat, (j : Int) ≤ i → acc[j]? = l[j]?
theorem Same.next {l acc : List Node} {k : Nat} {y : Node} (h : Same l acc (k : Int)) {i : Int} (hi : i < (k : Int)) : Same l (acc.set k y) i := by
  refine ⟨by rw [List.length_set]; exact h.1, fun j hj => ?_⟩
  rw [List.getElem?_set_ne (by omega)]
  exact h.2 j (by omega)

set_option maxHeartbeats 800000 in
theorem implCopy_any (a : Option Addr) (n cap : Nat) (l : List Node) (hn : n = l.length) (hl : n ≤ 1048576) (w : World) (h : Rd w a (l.flatMap Node.enc)) :
    Calls Try.prog 82 #[.slice a n cap] w (OwnRet w 69 3 n (l.flatMap Node.enc)) := by
  have Hn := Lib.hid hn
  clear hn
  obtain ⟨i0, hi, hz0, hz1, hz2⟩ := info_parts Try.infoNode
  go_enter Try.func82, Try.ntmps82
  go_wp2_with (at_builtin; refine wpList_append_acc (w0 := w) rfl _ _ 25 rfl 69 i0 (.agg #[.int .i64 0, .int .i64 0, .int .i64 0]) 3 24 Try.underlying25 hi hz0 hz1 hz2 rfl (by decide) _ _ _ rfl (Acc.nil (Below.refl _ _) rfl) a n cap (l.flatMap Node.enc) rfl ?c1 (h.below (below_a1 _ _)) ?c2 ?c3 ?c4 ?_)
  case c1 => rw [flat_length Node.enc 3 Node.enc_len, Hn.out]
  case c2 =>
    intro u hu
    obtain ⟨x, _, hx⟩ := List.mem_flatMap.1 hu
    simp [Node.enc] at hx
    rcases hx with rfl | rfl | rfl <;> simp [Value.oneCell']
  case c3 => unfold maxLen; omega
  case c4 => omega
  intro v' w' h1 _
  have H1 := Lib.hid h1
  clear h1
  go_wp2
  go_ret
  have h2 := H1.out.ret
  simpa using h2

set_option maxHeartbeats 800000 in
theorem specCopy_any (a : Option Addr) (n cap : Nat) (l : List Node) (hn : n = l.length) (hl : n ≤ 1048576) (w : World) (h : Rd w a (l.flatMap Node.enc)) :
    Calls Try.prog 81 #[.slice a n cap] w (OwnRet w 69 3 n (l.flatMap Node.enc)) := by
  have Hn := Lib.hid hn
  clear hn
  obtain ⟨i0, hi, hz0, hz1, hz2⟩ := info_parts Try.infoNode
  go_enter Try.func81, Try.ntmps81
  go_wp2_with (at_builtin; refine wpList_append_acc (w0 := w) rfl _ _ 25 rfl 69 i0 (.agg #[.int .i64 0, .int .i64 0, .int .i64 0]) 3 24 Try.underlying25 hi hz0 hz1 hz2 rfl (by decide) _ _ _ rfl (Acc.nil (Below.refl _ _) rfl) a n cap (l.flatMap Node.enc) rfl ?c1 (h.below (below_a1 _ _)) ?c2 ?c3 ?c4 ?_)
  case c1 => rw [flat_length Node.enc 3 Node.enc_len, Hn.out]
  case c2 =>
    intro u hu
    obtain ⟨x, _, hx⟩ := List.mem_flatMap.1 hu
    simp [Node.enc] at hx
    rcases hx with rfl | rfl | rfl <;> simp [Value.oneCell']
  case c3 => unfold maxLen; omega
  case c4 => omega
  intro v' w' h1 _
  have H1 := Lib.hid h1
  clear h1
  go_wp2
  go_ret
  have h2 := H1.out.ret
  simpa using h2

theorem quotaAdd_small (l : List Node) (p q : Int) (hl : l.length ≤ 1048576) : (quotaAdd l p q).1.length ≤ 1048576 := by
  unfold quotaAdd
  split
  · next h =>
    simp only [Bool.and_eq_true] at h
    have := (nodesOk_small (quotaOk_nodes h.1)).1
    simp
    omega
  · exact hl
theorem roomGo_le (l : List Node) : ∀ (f : Nat) (i acc : Int), roomGo l f i acc ≤ acc
  | 0, _, _ => Int.le_refl _
  | f + 1, i, acc => by
    rw [roomGo]
    split
    · exact Int.le_refl _
    · split
      · exact Int.le_refl _
      · exact Int.le_trans (roomGo_le l f _ _) (Int.min_le_left _ _)
theorem room_le {l : List Node} {i : Int} (h : hasQ l i = true) : room l i ≤ 1000000 := by
  obtain ⟨hq, k, x, rfl, hx, hk⟩ := has_split h
  rw [room_at h hx]
  have := roomGo_le l 9 (k : Int) (x.l - x.u)
  have := node_up (quotaOk_nodes hq) hx
  omega
theorem ownUse_le {l : List Node} {i : Int} (h : hasQ l i = true) : ownUse l i ≤ 1000000 := by
  obtain ⟨hq, k, x, rfl, hx, hk⟩ := has_split h
  rw [own_at h hx]
  have := used_bound (nodesOk_small (quotaOk_nodes hq)) (k : Int)
  have := node_up (quotaOk_nodes hq) hx
  omega
theorem charge_no1 {l : List Node} {i m : Int} (h : hasQ l i = false) : charge l i m = (l, false) := by unfold charge; rw [h]; rfl
theorem refund_no1 {l : List Node} {i m : Int} (h : hasQ l i = false) : refund l i m = (l, false) := by unfold refund; rw [h]; rfl
theorem charge_no2 {l : List Node} {i m : Int} (h : inB m 0 (room l i) = false) : charge l i m = (l, false) := by unfold charge; rw [h, Bool.and_false]; rfl
theorem refund_no2 {l : List Node} {i m : Int} (h : inB m 0 (ownUse l i) = false) : refund l i m = (l, false) := by unfold refund; rw [h, Bool.and_false]; rfl
theorem charge_yes {l : List Node} {i m : Int} (h : hasQ l i = true) (hm : inB m 0 (room l i) = true) : charge l i m = (charged l i m, true) := by unfold charge; rw [h, hm]; rfl
theorem refund_yes {l : List Node} {i m : Int} (h : hasQ l i = true) (hm : inB m 0 (ownUse l i) = true) : refund l i m = (charged l i (-m), true) := by unfold refund; rw [h, hm]; rfl
end Go.Proofs.Ytclananddmjnaaa
