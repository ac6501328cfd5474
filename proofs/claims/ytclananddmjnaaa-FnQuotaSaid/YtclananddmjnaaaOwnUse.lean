/- OwnUse of both sides. -/
import Derived.Test.YtclananddmjnaaaQuotaImpl
import Derived.Test.YtclananddmjnaaaQuotaSpec
namespace Go.Proofs.Ytclananddmjnaaa
open Go.RowKit

def hasQ (l : List Node) (i : Int) : Bool := quotaOk l && inB i 0 ((l.length : Int) - 1)
def ownUse (l : List Node) (i : Int) : Int := if hasQ l i = true then (l.getD i.toNat ⟨0, 0, 0⟩).u - usedBelow l i else 0

theorem quotaOk_nodes {l : List Node} (h : quotaOk l = true) : nodesOk l = true := by
  unfold quotaOk at h; simp only [Bool.and_eq_true] at h; exact h.1

set_option maxHeartbeats 400000 in
theorem hasQuota_any (a : Option Addr) (n cap : Nat) (l : List Node) (i : Int) (hn : n = l.length) (hl : n ≤ 1048576) (w : World) (h : Rd w a (l.flatMap Node.enc)) :
    Calls Try.prog 68 #[.slice a n cap, .int .i64 i] w fun e w' => e = .returned (.bool (hasQ l i)) ∧ Below w.heap.size w w' := by
  have Hn := Lib.hid hn
  clear hn
  go_enter Try.func68, Try.ntmps68
  go_wp2_with fail
  refine (implQuotaOk_any _ _ _ l Hn.out hl _ h).mono ?_
  rintro e w1 ⟨rfl, hb1⟩
  cases hq : quotaOk l
  · have Hr : Hid (hasQ l i = false) := hideP (by unfold hasQ; rw [hq]; rfl)
    go_wp2
    go_ret
    exact ⟨ret_bool Hr.out.symm, hb1⟩
  · have Hr : Hid (hasQ l i = inB i 0 ((n : Int) - 1)) := hideP (by unfold hasQ; rw [hq, Hn.out]; rfl)
    go_wp2_with (go_at_call 76; refine (within_any _ _ _ _).mono ?_; rintro e w' ⟨rfl, rfl⟩)
    go_ret
    exact ⟨ret_bool Hr.out.symm, hb1⟩

theorem has_split {l : List Node} {i : Int} (h : hasQ l i = true) : quotaOk l = true ∧ ∃ (k : Nat) (x : Node), i = (k : Int) ∧ l[k]? = some x ∧ k < l.length := by
  unfold hasQ at h
  simp only [Bool.and_eq_true, inB_true] at h
  obtain ⟨hq, h0, h1⟩ := h
  obtain ⟨k, rfl⟩ := Int.eq_ofNat_of_zero_le h0
  have hk : k < l.length := by omega
  exact ⟨hq, k, l[k], rfl, List.getElem?_eq_getElem hk, hk⟩
theorem own_at {l : List Node} {k : Nat} {x : Node} (h : hasQ l (k : Int) = true) (hx : l[k]? = some x) : ownUse l (k : Int) = x.u - usedBelow l (k : Int) := by
  unfold ownUse
  rw [if_pos h, List.getD_eq_getElem?_getD, Int.toNat_natCast, hx]
  rfl
/-- Sums of used, bounded. -/
theorem used_bound {l : List Node} (h : SmallNodes l) (i : Int) : 0 ≤ usedBelow l i ∧ usedBelow l i ≤ 8000000 := by
  have : ∀ (m : List Node) (acc : Int), (∀ x ∈ m, 0 ≤ x.u ∧ x.u ≤ 1000000) → 0 ≤ acc → 0 ≤ m.foldl (belowStep i) acc ∧ m.foldl (belowStep i) acc ≤ acc + m.length * 1000000 := by
    intro m
    induction m with
    | nil => intro acc _ h0; simp; omega
    | cons x m ih =>
      intro acc hx h0
      have hx0 := hx x (by simp)
      have h1 : 0 ≤ belowStep i acc x ∧ belowStep i acc x ≤ acc + 1000000 := by unfold belowStep; split <;> omega
      have := ih (belowStep i acc x) (fun y hy => hx y (by simp [hy])) h1.1
      rw [List.foldl_cons, List.length_cons]
      omega
  have h2 := this l 0 (fun x hx => by
    obtain ⟨k, hk⟩ := List.getElem?_of_mem hx
    exact h.2 k x hk) (by omega)
  have h8 := h.1
  unfold usedBelow
  omega

set_option maxRecDepth 100000 in
set_option maxHeartbeats 1000000 in
theorem implOwnUse_any (a : Option Addr) (n cap : Nat) (l : List Node) (i : Int) (hn : n = l.length) (hl : n ≤ 1048576) (w : World) (h : Rd w a (l.flatMap Node.enc)) :
    Calls Try.prog 55 #[.slice a n cap, .int .i64 i] w fun e w' => e = .returned (.int .i64 (ownUse l i)) ∧ Below w.heap.size w w' := by
  have Hn := Lib.hid hn
  clear hn
  go_enter Try.func55, Try.ntmps55
  go_wp2_with fail
  refine (hasQuota_any _ _ _ l i Hn.out hl _ h).mono ?_
  rintro e WB ⟨rfl, hb1⟩
  cases hh : hasQ l i
  · have Hr : Hid (ownUse l i = 0) := hideP (by unfold ownUse; rw [if_neg (by simp [hh])])
    go_wp2
    go_ret
    exact ⟨ret_int Hr.out.symm, hb1⟩
  · obtain ⟨hq, k, x, rfl, hx, hk⟩ := has_split hh
    have Hr := Lib.hid (own_at hh hx)
    have hsm := nodesOk_small (quotaOk_nodes hq)
    have hub := used_bound hsm (k : Int)
    have hxb := hsm.2 k x hx
    obtain ⟨u1, u2⟩ := hub
    obtain ⟨x1, x2⟩ := hxb
    have Hsm := Lib.hid hsm
    have hr2 := hideP (h.below hb1)
    obtain ⟨b, o, ha, hbw, _, _, g3⟩ := hr2.out.rowNode hx
    have hk' : k < n := by have := Hn.out; omega
    subst ha
    clear hx hq hsm hh
    go_wp2
    go_region_held3 (fun w' => w'.cell? ⟨b, o + k * 3 + 2, none⟩ = some (.int .i64 x.u) ∧ Below WB.heap.size WB w') ((first | exact keep0 (by assumption) | exact keepS (by assumption) (by assumption) (by simp; omega) (Nat.le_refl _))) (first | (go_at_call 96; refine (usedBelow_any _ _ _ l _ Hn.out Hsm.out _ (hr2.out.below (And.right (by assumption)))).mono ?_; rintro e w2 ⟨rfl, hb2⟩))
    obtain ⟨_, hS2⟩ : World.cell? _ ⟨b, o + k * 3 + 2, none⟩ = some (.int .i64 x.u) ∧ Below WB.heap.size WB _ := by assumption
    have hbe := hb1.trans (hS2.mono hb1.size)
    go_wp2
    go_ret
    refine ⟨?_, hbe⟩
    rw [Hr.out]
    first | rfl | exact ret_int (IntWalk.i64_in _ (by omega)) | (simp; omega)

set_option maxRecDepth 100000 in
set_option maxHeartbeats 1000000 in
theorem specOwnUse_any (a : Option Addr) (n cap : Nat) (l : List Node) (i : Int) (hn : n = l.length) (hl : n ≤ 1048576) (w : World) (h : Rd w a (l.flatMap Node.enc)) :
    Calls Try.prog 84 #[.slice a n cap, .int .i64 i] w fun e w' => e = .returned (.int .i64 (ownUse l i)) ∧ Qt w w' := by
  have Hn := Lib.hid hn
  clear hn
  go_enter Try.func84, Try.ntmps84
  go_wp2_with fail
  refine (specQuotaOk_any _ _ _ l Hn.out hl _ h).mono ?_
  rintro e w1 ⟨rfl, m, rfl⟩
  cases hq : quotaOk l
  · have Hr : Hid (ownUse l i = 0) := hideP (by unfold ownUse hasQ; rw [hq]; rfl)
    go_wp2
    go_ret
    exact ⟨ret_int Hr.out.symm, Qt.d _ _⟩
  · cases hi : inB i 0 ((n : Int) - 1)
    · have Hr : Hid (ownUse l i = 0) := hideP (by unfold ownUse hasQ; rw [hq, ← Hn.out, hi]; rfl)
      go_wp2_with (go_at_call 66; refine (l1In_any _ _ _ _).mono ?_; rintro e w' ⟨rfl, rfl⟩)
      go_ret
      exact ⟨ret_int Hr.out.symm, Qt.d _ _⟩
    · have hh : hasQ l i = true := by unfold hasQ; rw [hq, ← Hn.out, hi]; rfl
      obtain ⟨_, k, x, rfl, hx, hk⟩ := has_split hh
      have Hr := Lib.hid (own_at hh hx)
      have hno := quotaOk_nodes hq
      have hsm := nodesOk_small hno
      have hub := used_bound hsm (k : Int)
      have hxb := hsm.2 k x hx
      obtain ⟨u1, u2⟩ := hub
      obtain ⟨x1, x2⟩ := hxb
      have Hno := Lib.hid hno
      obtain ⟨b, o, ha, hbw, _, _, g3⟩ := h.rowNode hx
      have hk' : k < n := by have := Hn.out; omega
      subst ha
      clear hx hsm hh hno
      go_wp2_with (go_at_call 66; refine (l1In_any _ _ _ _).mono ?_; rintro e w' ⟨rfl, rfl⟩)
      go_quiet ((go_at_call 95; exact quietS (l20Kids_k _ _ _ l k Hn.out Hno.out hk' _ (h.drewN _))))
      go_wp2
      go_ret
      refine ⟨?_, (by first | exact Qt.d _ _ | exact Qt.dd _ _ _)⟩
      rw [Hr.out]
      first | rfl | exact ret_int (IntWalk.i64_in _ (by omega)) | (simp; omega)
end Go.Proofs.Ytclananddmjnaaa
