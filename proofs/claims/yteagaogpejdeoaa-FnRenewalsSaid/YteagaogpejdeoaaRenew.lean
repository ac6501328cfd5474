/- Renewals of both sides. -/
import Derived.Test.YteagaogpejdeoaaInts
namespace Go.Proofs.Yteagaogpejdeoaa
open Go.RowKit

theorem Try.infoInt : (Try.prog.info? 3).map (fun i => (i.zero, i.size, i.bytes)) = some (some (.int .i64 0), 1, 8) := by kernel_rfl

def renew (s w : Int) : Nat → Int → List Int
  | 0, _ => []
  | f + 1, u => if u < w then (if w - u < s then w - u else s) :: renew s w f (u + (if w - u < s then w - u else s)) else []
def renewals (u w s : Int) : List Int := if inB u 0 1000000 && (inB w 0 1000000 && inB s 1 1000) then renew s w 100 u else []
theorem renew_length (s w : Int) : ∀ (f : Nat) (u : Int), (renew s w f u).length ≤ f
  | 0, _ => by simp [renew]
  | f + 1, u => by
    unfold renew
    split
    · have := renew_length s w f (u + (if w - u < s then w - u else s))
      simp only [List.length_cons]
      omega
    · simp
theorem renew_step {s w u d : Int} {k : Nat} {acc l : List Int} (h : l = acc ++ renew s w (100 - k) u) (hk : k < 100) (hu : u < w) (hd : d = if w - u < s then w - u else s) :
    l = (acc ++ [d]) ++ renew s w (100 - (k + 1)) (u + d) := by
  obtain ⟨f, hf⟩ : ∃ f, 100 - k = f + 1 := ⟨99 - k, by omega⟩
  rw [hf] at h
  unfold renew at h
  rw [if_pos hu, ← hd] at h
  rw [show 100 - (k + 1) = f from by omega, h]
  simp
theorem renew_end {s w u : Int} {k : Nat} {acc l : List Int} (h : l = acc ++ renew s w (100 - k) u) (hk : 100 ≤ k ∨ w ≤ u) : l = acc := by
  rw [h]
  rcases hk with hk | hk
  · rw [show 100 - k = 0 from by omega]; simp [renew]
  · cases 100 - k with
    | zero => simp [renew]
    | succ f => simp [renew, show ¬ u < w from by omega]

/-- What a function hands back that makes a slice of its own. -/
def OwnRet (w : World) (E : TypeId) (s n : Nat) (xs : List Value) (e : Ending) (w' : World) : Prop :=
  ∃ v, e = .returned v ∧ w'.ownsRow w.heap.size E s v n xs ∧ Below w.heap.size w w'

set_option maxRecDepth 100000 in
set_option maxHeartbeats 1000000 in
theorem implRenewals_any (u0 want step : Int) (w : World) :
    Calls Try.prog 20 #[.int .i64 u0, .int .i64 want, .int .i64 step] w (OwnRet w 3 1 (renewals u0 want step).length ((renewals u0 want step).map (Value.int .i64))) := by
  obtain ⟨i0, hi, hz0, hz1, hz2⟩ := info_parts Try.infoInt
  by_cases hin : (inB u0 0 1000000 && (inB want 0 1000000 && inB step 1 1000)) = true
  · have hr : renewals u0 want step = renew step want 100 u0 := by rw [renewals, if_pos hin]
    rw [hr]
    simp only [Bool.and_eq_true] at hin
    obtain ⟨t1, t2, t3⟩ := hin
    have b1 := inB_true.1 t1
    have b2 := inB_true.1 t2
    have b3 := inB_true.1 t3
    obtain ⟨b10, b11⟩ := b1
    obtain ⟨b20, b21⟩ := b2
    obtain ⟨b30, b31⟩ := b3
    clear hr
    go_enter Try.func20, Try.ntmps20
    go_wp2_with (first | (go_at_call 60; refine (within_any _ _ _ _).mono ?_; rintro e w' ⟨rfl, rfl⟩) | (go_at_call 63; refine (isTime_any _ _).mono ?_; rintro e w' ⟨rfl, rfl⟩))
    go_loopw [0, 7] (fun uu v wr => ∃ (k : Nat) (u : Int) (a : Option Addr) (c : Nat) (acc : List Int), k ≤ 100 ∧ Hid (acc.length = k) ∧ uu = .int .i64 u ∧ v = .slice a k c ∧ Hid (wr.ownsRow w.heap.size 3 1 (.slice a k c) k (acc.map (Value.int .i64))) ∧ 0 ≤ u ∧ u ≤ 1000000 ∧ Hid (renew step want 100 u0 = acc ++ renew step want (100 - k) u) ∧ Below w.heap.size w wr ∧ w.heap.size ≤ wr.heap.size)
      (fun _ v _ => match v with | .slice _ k _ => 100 - k | _ => 0)
    case atStart => exact ⟨0, u0, _, _, [], by omega, rfl, rfl, rfl, hideP (owns_lit (Nat.le_refl _) rfl (by decide) rfl rfl), b10, b11, hideP (by simp), below_a1 _ _, by simp⟩
    case round =>
      obtain ⟨k, u, a, c, acc, hk, hlen, rfl, rfl, hown, hu0, hu1, hf, hb, hsz⟩ := hrel
      by_cases h1 : u < want
      · by_cases h2 : k < 100
        · have fin : ∀ (d : Int) (W2 : World) (v' : Value) (W3 : World), d = (if want - u < step then want - u else step) → Below w.heap.size w W2 → w.heap.size ≤ W2.heap.size → W3.ownsRow w.heap.size 3 1 v' (k + 1) (acc.map (Value.int .i64) ++ [.int .i64 d]) → W2.grownBy W3 (Value.slice a k c).ownBlock →
              ∃ a' c', v' = .slice a' (k + 1) c' ∧ Hid ((acc ++ [d]).length = k + 1) ∧ Hid (W3.ownsRow w.heap.size 3 1 (.slice a' (k + 1) c') (k + 1) ((acc ++ [d]).map (Value.int .i64))) ∧ Hid (renew step want 100 u0 = (acc ++ [d]) ++ renew step want (100 - (k + 1)) (u + d)) ∧ Below w.heap.size w W3 ∧ w.heap.size ≤ W3.heap.size := by
            intro d W2 v' W3 hd hb2 hs2 ho hg
            obtain ⟨a', c', rfl, _⟩ := owns_slice ho
            refine ⟨a', c', rfl, hideP (by have := hlen.out; simp; omega), hideP (by simpa using ho), hideP (renew_step hf.out h2 h1 hd), hb2.grown hg hs2 (fun q hq => (hown.out.lt q hq).1), Nat.le_trans hs2 hg.size⟩
          by_cases h3 : want - u < step
          · go_wp2_with (at_builtin; refine wpList_append_own _ rfl _ _ 36 rfl w.heap.size 3 i0 (.int .i64 0) 1 8 Try.underlying36 hi hz0 hz1 hz2 rfl (by decide) _ _ _ rfl (hown.out.alloc _) ⟨wr.heap.size, 0, none⟩ 1 1 [.int .i64 (want - u)] rfl rfl ?c1 ?c2 ?c3 ?c4 ?c5 ?_)
            try (case c1 => intro j q hq; cases j <;> simp_all [Addr.add, go_sem])
            case c2 => simp [Value.oneCell']
            case c3 => unfold maxLen; omega
            case c4 => omega
            case c5 => first | omega | (simp; done) | (simp; omega)
            intro v' w3 ho hg _
            obtain ⟨a', c', rfl, q1, q2, q3, q4, q5⟩ := fin (want - u) _ _ _ (by rw [if_pos (by omega)]) (hb.alloc hsz _) (by simp; omega) ho hg
            clear ho hg fin
            go_wp2
            go_roundw
            case rel => exact ⟨k + 1, u + (want - u), a', c', acc ++ [want - u], by omega, q1, by first | rfl | (congr 1; omega), rfl, q2, by omega, by omega, q3, q4, q5⟩
            case measure => simp; omega
          · go_wp2_with (at_builtin; refine wpList_append_own _ rfl _ _ 36 rfl w.heap.size 3 i0 (.int .i64 0) 1 8 Try.underlying36 hi hz0 hz1 hz2 rfl (by decide) _ _ _ rfl (hown.out.alloc _) ⟨wr.heap.size, 0, none⟩ 1 1 [.int .i64 step] rfl rfl ?d1 ?d2 ?d3 ?d4 ?d5 ?_)
            try (case d1 => intro j q hq; cases j <;> simp_all [Addr.add, go_sem])
            case d2 => simp [Value.oneCell']
            case d3 => unfold maxLen; omega
            case d4 => omega
            case d5 => first | omega | (simp; done) | (simp; omega)
            intro v' w3 ho hg _
            obtain ⟨a', c', rfl, q1, q2, q3, q4, q5⟩ := fin step _ _ _ (by rw [if_neg (by omega)]) (hb.alloc hsz _) (by simp; omega) ho hg
            clear ho hg fin
            go_wp2
            go_roundw
            case rel => exact ⟨k + 1, u + step, a', c', acc ++ [step], by omega, q1, by first | rfl | (congr 1; omega), rfl, q2, by omega, by omega, q3, q4, q5⟩
            case measure => simp; omega
        · go_wp2
          go_ret
          have he := renew_end hf.out (.inl (by omega))
          have hl := hlen.out
          refine ⟨_, rfl, ?_, hb⟩
          rw [he, hl]
          exact hown.out
      · go_wp2
        go_ret
        have he := renew_end hf.out (.inr (by omega))
        have hl := hlen.out
        refine ⟨_, rfl, ?_, hb⟩
        rw [he, hl]
        exact hown.out
  · have hr : renewals u0 want step = [] := by rw [renewals, if_neg hin]
    rw [hr]
    cases t1 : inB u0 0 1000000
    · go_enter Try.func20, Try.ntmps20
      go_wp2_with (first | (go_at_call 60; refine (within_any _ _ _ _).mono ?_; rintro e w' ⟨rfl, rfl⟩) | (go_at_call 63; refine (isTime_any _ _).mono ?_; rintro e w' ⟨rfl, rfl⟩))
      go_ret
      exact ⟨_, rfl, owns_lit (Nat.le_refl _) rfl (by decide) rfl rfl, below_a1 _ _⟩
    · cases t2 : inB want 0 1000000
      · go_enter Try.func20, Try.ntmps20
        go_wp2_with (first | (go_at_call 60; refine (within_any _ _ _ _).mono ?_; rintro e w' ⟨rfl, rfl⟩) | (go_at_call 63; refine (isTime_any _ _).mono ?_; rintro e w' ⟨rfl, rfl⟩))
        go_ret
        exact ⟨_, rfl, owns_lit (Nat.le_refl _) rfl (by decide) rfl rfl, below_a1 _ _⟩
      · cases t3 : inB step 1 1000
        · go_enter Try.func20, Try.ntmps20
          go_wp2_with (first | (go_at_call 60; refine (within_any _ _ _ _).mono ?_; rintro e w' ⟨rfl, rfl⟩) | (go_at_call 63; refine (isTime_any _ _).mono ?_; rintro e w' ⟨rfl, rfl⟩))
          go_ret
          exact ⟨_, rfl, owns_lit (Nat.le_refl _) rfl (by decide) rfl rfl, below_a1 _ _⟩
        · exact absurd (by simp [t1, t2, t3]) hin

set_option maxRecDepth 100000 in
set_option maxHeartbeats 1000000 in
theorem specRenewals_any (u0 want step : Int) (w : World) :
    Calls Try.prog 21 #[.int .i64 u0, .int .i64 want, .int .i64 step] w (OwnRet w 3 1 (renewals u0 want step).length ((renewals u0 want step).map (Value.int .i64))) := by
  obtain ⟨i0, hi, hz0, hz1, hz2⟩ := info_parts Try.infoInt
  by_cases hin : (inB u0 0 1000000 && (inB want 0 1000000 && inB step 1 1000)) = true
  · have hr : renewals u0 want step = renew step want 100 u0 := by rw [renewals, if_pos hin]
    rw [hr]
    simp only [Bool.and_eq_true] at hin
    obtain ⟨t1, t2, t3⟩ := hin
    have b1 := inB_true.1 t1
    have b2 := inB_true.1 t2
    have b3 := inB_true.1 t3
    obtain ⟨b10, b11⟩ := b1
    obtain ⟨b20, b21⟩ := b2
    obtain ⟨b30, b31⟩ := b3
    clear hr
    go_enter Try.func21, Try.ntmps21
    go_wp2_with (first | (go_at_call 57; refine (l1In_any _ _ _ _).mono ?_; rintro e w' ⟨rfl, rfl⟩))
    go_loopw [0, 7] (fun uu v wr => ∃ (k : Nat) (u : Int) (a : Option Addr) (c : Nat) (acc : List Int), k ≤ 100 ∧ Hid (acc.length = k) ∧ uu = .int .i64 u ∧ v = .slice a k c ∧ Hid (wr.ownsRow w.heap.size 3 1 (.slice a k c) k (acc.map (Value.int .i64))) ∧ 0 ≤ u ∧ u ≤ 1000000 ∧ Hid (renew step want 100 u0 = acc ++ renew step want (100 - k) u) ∧ Below w.heap.size w wr ∧ w.heap.size ≤ wr.heap.size)
      (fun _ v _ => match v with | .slice _ k _ => 100 - k | _ => 0)
    case atStart => exact ⟨0, u0, _, _, [], by omega, rfl, rfl, rfl, hideP (owns_lit (Nat.le_refl _) rfl (by decide) rfl rfl), b10, b11, hideP (by simp), below_a1 _ _, by simp⟩
    case round =>
      obtain ⟨k, u, a, c, acc, hk, hlen, rfl, rfl, hown, hu0, hu1, hf, hb, hsz⟩ := hrel
      by_cases h1 : u < want
      · by_cases h2 : k < 100
        · have fin : ∀ (d : Int) (W2 : World) (v' : Value) (W3 : World), d = (if want - u < step then want - u else step) → Below w.heap.size w W2 → w.heap.size ≤ W2.heap.size → W3.ownsRow w.heap.size 3 1 v' (k + 1) (acc.map (Value.int .i64) ++ [.int .i64 d]) → W2.grownBy W3 (Value.slice a k c).ownBlock →
              ∃ a' c', v' = .slice a' (k + 1) c' ∧ Hid ((acc ++ [d]).length = k + 1) ∧ Hid (W3.ownsRow w.heap.size 3 1 (.slice a' (k + 1) c') (k + 1) ((acc ++ [d]).map (Value.int .i64))) ∧ Hid (renew step want 100 u0 = (acc ++ [d]) ++ renew step want (100 - (k + 1)) (u + d)) ∧ Below w.heap.size w W3 ∧ w.heap.size ≤ W3.heap.size := by
            intro d W2 v' W3 hd hb2 hs2 ho hg
            obtain ⟨a', c', rfl, _⟩ := owns_slice ho
            refine ⟨a', c', rfl, hideP (by have := hlen.out; simp; omega), hideP (by simpa using ho), hideP (renew_step hf.out h2 h1 hd), hb2.grown hg hs2 (fun q hq => (hown.out.lt q hq).1), Nat.le_trans hs2 hg.size⟩
          by_cases h3 : want - u < step
          · go_wp2_with (at_builtin; refine wpList_append_own _ rfl _ _ 36 rfl w.heap.size 3 i0 (.int .i64 0) 1 8 Try.underlying36 hi hz0 hz1 hz2 rfl (by decide) _ _ _ rfl (hown.out.alloc _) ⟨wr.heap.size, 0, none⟩ 1 1 [.int .i64 (want - u)] rfl rfl ?c1 ?c2 ?c3 ?c4 ?c5 ?_)
            try (case c1 => intro j q hq; cases j <;> simp_all [Addr.add, go_sem])
            case c2 => simp [Value.oneCell']
            case c3 => unfold maxLen; omega
            case c4 => omega
            case c5 => first | omega | (simp; done) | (simp; omega)
            intro v' w3 ho hg _
            obtain ⟨a', c', rfl, q1, q2, q3, q4, q5⟩ := fin (want - u) _ _ _ (by rw [if_pos (by omega)]) (hb.alloc hsz _) (by simp; omega) ho hg
            clear ho hg fin
            go_wp2
            go_roundw
            case rel => exact ⟨k + 1, u + (want - u), a', c', acc ++ [want - u], by omega, q1, by first | rfl | (congr 1; omega), rfl, q2, by omega, by omega, q3, q4, q5⟩
            case measure => simp; omega
          · go_wp2_with (at_builtin; refine wpList_append_own _ rfl _ _ 36 rfl w.heap.size 3 i0 (.int .i64 0) 1 8 Try.underlying36 hi hz0 hz1 hz2 rfl (by decide) _ _ _ rfl (hown.out.alloc _) ⟨wr.heap.size, 0, none⟩ 1 1 [.int .i64 step] rfl rfl ?d1 ?d2 ?d3 ?d4 ?d5 ?_)
            try (case d1 => intro j q hq; cases j <;> simp_all [Addr.add, go_sem])
            case d2 => simp [Value.oneCell']
            case d3 => unfold maxLen; omega
            case d4 => omega
            case d5 => first | omega | (simp; done) | (simp; omega)
            intro v' w3 ho hg _
            obtain ⟨a', c', rfl, q1, q2, q3, q4, q5⟩ := fin step _ _ _ (by rw [if_neg (by omega)]) (hb.alloc hsz _) (by simp; omega) ho hg
            clear ho hg fin
            go_wp2
            go_roundw
            case rel => exact ⟨k + 1, u + step, a', c', acc ++ [step], by omega, q1, by first | rfl | (congr 1; omega), rfl, q2, by omega, by omega, q3, q4, q5⟩
            case measure => simp; omega
        · go_wp2
          go_ret
          have he := renew_end hf.out (.inl (by omega))
          have hl := hlen.out
          refine ⟨_, rfl, ?_, hb⟩
          rw [he, hl]
          exact hown.out
      · go_wp2
        go_ret
        have he := renew_end hf.out (.inr (by omega))
        have hl := hlen.out
        refine ⟨_, rfl, ?_, hb⟩
        rw [he, hl]
        exact hown.out
  · have hr : renewals u0 want step = [] := by rw [renewals, if_neg hin]
    rw [hr]
    cases t1 : inB u0 0 1000000
    · go_enter Try.func21, Try.ntmps21
      go_wp2_with (first | (go_at_call 57; refine (l1In_any _ _ _ _).mono ?_; rintro e w' ⟨rfl, rfl⟩))
      go_ret
      exact ⟨_, rfl, owns_lit (Nat.le_refl _) rfl (by decide) rfl rfl, below_a1 _ _⟩
    · cases t2 : inB want 0 1000000
      · go_enter Try.func21, Try.ntmps21
        go_wp2_with (first | (go_at_call 57; refine (l1In_any _ _ _ _).mono ?_; rintro e w' ⟨rfl, rfl⟩))
        go_ret
        exact ⟨_, rfl, owns_lit (Nat.le_refl _) rfl (by decide) rfl rfl, below_a1 _ _⟩
      · cases t3 : inB step 1 1000
        · go_enter Try.func21, Try.ntmps21
          go_wp2_with (first | (go_at_call 57; refine (l1In_any _ _ _ _).mono ?_; rintro e w' ⟨rfl, rfl⟩))
          go_ret
          exact ⟨_, rfl, owns_lit (Nat.le_refl _) rfl (by decide) rfl rfl, below_a1 _ _⟩
        · exact absurd (by simp [t1, t2, t3]) hin
end Go.Proofs.Yteagaogpejdeoaa
