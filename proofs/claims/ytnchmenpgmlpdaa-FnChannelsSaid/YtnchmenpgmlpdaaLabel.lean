/- Labels and what is owned: LabelOk, OwnOk of both sides; l4Has, slices.Contains. -/
import Derived.Test.YtnchmenpgmlpdaaObjSmall
import Derived.Test.YtnchmenpgmlpdaaBlk
import Derived.Test.YtnchmenpgmlpdaaKeep
import Derived.Deep.LoopGhost
namespace Go.Proofs.Ytnchmenpgmlpdaa
open Go.RowKit

def labelOk (l : List Int) : Bool := l.all (fun n => inB n 0 3) && decide (l.length = 4)
def lessP : Option Int → Int → Bool
  | none, _ => true
  | some y, x => decide (y < x)
def ownGo : Option Int → List Int → Bool
  | _, [] => true
  | p, x :: l => inB x 0 3 && (lessP p x && ownGo (some x) l)
def ownOk (l : List Int) : Bool := ownGo none l
def prevAt (l : List Int) (k : Nat) : Option Int := if k = 0 then none else l[k - 1]?
theorem prevAt_succ {l : List Int} {k : Nat} {x : Int} (h : l[k]? = some x) : prevAt l (k + 1) = some x := by unfold prevAt; rw [if_neg (by omega)]; simpa using h
theorem own_bad {l : List Int} {k : Nat} {x : Int} (h : ownOk l = ownGo (prevAt l k) (l.drop k)) (hx : l[k]? = some x) (hb : inB x 0 3 = false ∨ lessP (prevAt l k) x = false) : ownOk l = false := by
  rw [h, drop_cons hx, ownGo]
  rcases hb with hb | hb
  · rw [hb]; rfl
  · rw [hb]; simp
theorem own_good {l : List Int} {k : Nat} {x : Int} (h : ownOk l = ownGo (prevAt l k) (l.drop k)) (hx : l[k]? = some x) (h1 : inB x 0 3 = true) (h2 : lessP (prevAt l k) x = true) : ownOk l = ownGo (prevAt l (k + 1)) (l.drop (k + 1)) := by
  rw [h, drop_cons hx, ownGo, h1, h2, prevAt_succ hx]
  rfl
theorem own_end {l : List Int} {k : Nat} (h : ownOk l = ownGo (prevAt l k) (l.drop k)) (hk : l.length ≤ k) : ownOk l = true := by
  rw [h, List.drop_eq_nil_of_le hk]
  cases prevAt l k <;> rfl
def hasB (l : List Int) (x : Int) : Bool := l.contains x
theorem not_has {l : List Int} {x : Int} {k : Nat} (h : ∀ j, j < k → l[j]? ≠ some x) (hk : l.length ≤ k) : hasB l x = false := by
  unfold hasB
  rw [Bool.eq_false_iff]
  intro hc
  have hm : x ∈ l := by simpa using hc
  obtain ⟨j, hj, e⟩ := List.mem_iff_getElem.1 hm
  exact h j (by omega) (by rw [List.getElem?_eq_getElem hj, e])
theorem is_has {l : List Int} {x : Int} {k : Nat} (h : l[k]? = some x) : hasB l x = true := by
  unfold hasB
  simpa using List.mem_of_getElem? h
set_option maxRecDepth 100000 in
set_option maxHeartbeats 4000000 in
theorem specLabelOk_any (l : List Int) (a : Option Addr) (c : Nat) (_hl : l.length ≤ maxLen) (w : World) (h : Rd w a (icell l)) :
    Calls Try.prog 81 #[.agg #[.slice a l.length c]] w fun e w' => e = .returned (.bool (labelOk l)) ∧ Below w.heap.size w w' := by
  have hl63 := _hl
  unfold maxLen at hl63
  have B0 := hideP (Blk.new w #[.slice a l.length c] 41)
  have HB := hideP (below_a1 w (.cells #[.slice a l.length c] 41))
  have HRd := hideP h
  clear h
  by_cases h4 : l.length = 4
  · rw [h4] at B0 HB ⊢
    go_enter Try.func81, Try.ntmps81
    go_wp2
    go_loopg [3] 5 (fun gk i wr => ∃ k : Nat, 4 < gk + k ∧ k ≤ 4 ∧ i = .int .i64 (k : Int) ∧ Hid (l.all (fun n => inB n 0 3) = (l.drop k).all (fun n => inB n 0 3)) ∧ Hid (Blk wr w.heap.size 41 [.slice a 4 c]) ∧ Hid (Below w.heap.size w wr))
    case atStart => exact ⟨0, by omega, by omega, rfl, hideP rfl, B0, HB⟩
    case round =>
      clear B0 HB
      obtain ⟨k, hgk, hk, rfl, ha, B0, HB⟩ := hrel
      have c0 : wr.cell? ⟨w.heap.size, 0, none⟩ = some (.slice a 4 c) := (B0.out.cell 0).trans rfl
      by_cases hlt : k < 4
      · obtain ⟨x, hx⟩ := some_at (l := l) (k := k) (by omega)
        obtain ⟨b, o, rfl, hbw, g0⟩ := rdInt (HRd.out.below HB.out) hx
        have k0 : (0 : Int) ≤ (k : Int) := by omega
        have k1 : (k : Int) < 4 := by omega
        cases t1 : inB x 0 3
        · have HN : Hid (labelOk l = false) := hideP (by unfold labelOk; rw [all_bad ha.out hx t1]; rfl)
          clear hx
          go_wp2_with fail
          refine (l1In_any _ _ _ _).mono ?_
          rintro e w' ⟨rfl, rfl⟩
          rw [t1]
          go_wp2
          go_ret
          exact ⟨ret_bool HN.out.symm, HB.out⟩
        · have HA := Lib.hid (all_good ha.out hx t1)
          clear hx
          go_wp2_with fail
          refine (l1In_any _ _ _ _).mono ?_
          rintro e w' ⟨rfl, rfl⟩
          rw [t1]
          go_wp2
          go_roundg (gk - 1)
          case measure => omega
          case rel => exact ⟨k + 1, by omega, by omega, by go_num, HA, B0, HB⟩
      · have HN : Hid (labelOk l = decide (l.length = 4)) := hideP (by unfold labelOk; rw [ha.out, List.drop_eq_nil_of_le (by omega)]; rfl)
        have d1 : ¬ ((k : Int) < 4) := by omega
        clear ha
        go_wp2
        go_ret
        exact ⟨ret_bool (by rw [HN.out, decide_eq_true h4]), HB.out⟩
  · have d1 : ((l.length : Int) != 4) = true := by simp; omega
    go_enter Try.func81, Try.ntmps81
    go_wp2
    go_ret
    exact ⟨ret_bool (by unfold labelOk; rw [decide_eq_false h4, Bool.and_false]), HB.out⟩
set_option maxRecDepth 100000 in
set_option maxHeartbeats 4000000 in
theorem implLabelOk_any (l : List Int) (a : Option Addr) (c : Nat) (_hl : l.length ≤ maxLen) (w : World) (h : Rd w a (icell l)) :
    Calls Try.prog 129 #[.agg #[.slice a l.length c]] w fun e w' => e = .returned (.bool (labelOk l)) ∧ Below w.heap.size w w' := by
  have hl63 := _hl
  unfold maxLen at hl63
  have B0 := hideP (Blk.new w #[.slice a l.length c] 41)
  have HB := hideP (below_a1 w (.cells #[.slice a l.length c] 41))
  have HRd := hideP h
  clear h
  go_enter Try.func129, Try.ntmps129
  go_wp2
  go_loopg [8] (l.length + 1) (fun gk i wr => ∃ k : Nat, l.length < gk + k ∧ k ≤ l.length ∧ i = .int .i64 (k : Int) ∧ Hid (l.all (fun n => inB n 0 3) = (l.drop k).all (fun n => inB n 0 3)) ∧ Hid (Blk wr w.heap.size 41 [.slice a l.length c]) ∧ Hid (Below w.heap.size w wr))
  case atStart => exact ⟨0, by omega, by omega, rfl, hideP rfl, B0, HB⟩
  case round =>
    clear B0 HB
    obtain ⟨k, hgk, hk, rfl, ha, B0, HB⟩ := hrel
    have c0 : wr.cell? ⟨w.heap.size, 0, none⟩ = some (.slice a l.length c) := (B0.out.cell 0).trans rfl
    by_cases hlt : k < l.length
    · obtain ⟨x, hx⟩ := some_at (l := l) (k := k) hlt
      obtain ⟨b, o, rfl, hbw, g0⟩ := rdInt (HRd.out.below HB.out) hx
      have k0 : (0 : Int) ≤ (k : Int) := by omega
      have k1 : (k : Int) < (l.length : Int) := by omega
      cases t1 : inB x 0 3
      · have HN : Hid (labelOk l = false) := hideP (by unfold labelOk; rw [all_bad ha.out hx t1]; rfl)
        clear hx
        go_wp2_with fail
        refine (within_any _ _ _ _).mono ?_
        rintro e w' ⟨rfl, rfl⟩
        rw [t1]
        go_wp2
        go_ret
        exact ⟨ret_bool HN.out.symm, HB.out⟩
      · have HA := Lib.hid (all_good ha.out hx t1)
        clear hx
        go_wp2_with fail
        refine (within_any _ _ _ _).mono ?_
        rintro e w' ⟨rfl, rfl⟩
        rw [t1]
        go_wp2
        go_roundg (gk - 1)
        case measure => omega
        case rel => exact ⟨k + 1, by omega, by omega, by go_num, HA, B0, HB⟩
    · have HN : Hid (labelOk l = decide (l.length = 4)) := hideP (by unfold labelOk; rw [ha.out, List.drop_eq_nil_of_le (by omega)]; rfl)
      have d1 : ¬ ((k : Int) < (l.length : Int)) := by omega
      clear ha
      by_cases h4 : l.length = 4
      · have d4 : ((l.length : Int) == 4) = true := by simp [h4]
        go_wp2
        go_ret
        exact ⟨ret_bool (by rw [HN.out, decide_eq_true h4]), HB.out⟩
      · have d4 : ((l.length : Int) == 4) = false := by simp; omega
        go_wp2
        go_ret
        exact ⟨ret_bool (by rw [HN.out, decide_eq_false h4]), HB.out⟩
set_option maxRecDepth 100000 in
set_option maxHeartbeats 4000000 in
theorem specOwnOk_any (l : List Int) (a : Option Addr) (c : Nat) (_hl : l.length ≤ maxLen) (w : World) (h : Rd w a (icell l)) :
    Calls Try.prog 82 #[.slice a l.length c] w fun e w' => e = .returned (.bool (ownOk l)) ∧ Qt w w' := by
  have hl63 := _hl
  unfold maxLen at hl63
  go_enter Try.func82, Try.ntmps82
  go_wp2
  go_loopg [3] (l.length + 1) (fun gk i wr => ∃ k : Nat, l.length < gk + k ∧ k ≤ l.length ∧ i = .int .i64 (k : Int) ∧ Hid (ownOk l = ownGo (prevAt l k) (l.drop k)) ∧ Qt w wr)
  case atStart => exact ⟨0, by omega, by omega, rfl, hideP rfl, Qt.refl _⟩
  case round =>
    obtain ⟨k, hgk, hk, rfl, ha, m, rfl⟩ := hrel
    by_cases hlt : k < l.length
    · obtain ⟨x, hx⟩ := some_at (l := l) (k := k) hlt
      obtain ⟨b, o, rfl, hbw, g0⟩ := rdInt h hx
      have k0 : (0 : Int) ≤ (k : Int) := by omega
      have k1 : (k : Int) < (l.length : Int) := by omega
      cases t1 : inB x 0 3
      · have HN : Hid (ownOk l = false) := hideP (own_bad ha.out hx (.inl t1))
        clear hx
        go_wp2
        refine wp_region_held_drew (S := fun w' => Qt w w') (by kernel_rfl) (⟨m + 1, rfl⟩) (fun hHeld => ?_)
        refine takeD (i := 0) (oi := _) (v := ?_) (some 10) rfl rfl (by kernel_rfl) (by kernel_rfl) (by kernel_rfl) (fun _ _ _ h => h) (Or.inl ⟨by rfl, ?_⟩) (by assumption) ?_
        rotate_left
        · intro wS hSw; obtain ⟨q', rfl⟩ := hSw; go_simp; (try rw [if_neg (by omega)]); try with_reducible rfl
        try simp only [Act.put, List.setIfInBounds_toArray, List.set_cons_zero, List.set_cons_succ]
        refine takeD (i := 1) (oi := _) (v := ?_) (some 11) rfl rfl (by kernel_rfl) (by kernel_rfl) (by kernel_rfl) (fun _ _ _ h => h) (Or.inl ⟨by rfl, ?_⟩) (by assumption) ?_
        rotate_left
        · intro wS hSw; obtain ⟨q', rfl⟩ := hSw; go_simp; (try rw [if_neg (by omega)]); try with_reducible rfl
        try simp only [Act.put, List.setIfInBounds_toArray, List.set_cons_zero, List.set_cons_succ]
        refine takeD (i := 2) (oi := _) (v := ?_) (some 12) rfl rfl (by kernel_rfl) (by kernel_rfl) (by kernel_rfl) (fun _ _ _ h => h) (Or.inl ⟨by rfl, ?_⟩) (by assumption) ?_
        rotate_left
        · intro wS hSw; obtain ⟨q', rfl⟩ := hSw; go_simp; (try rw [if_neg (by omega)]); try with_reducible rfl
        try simp only [Act.put, List.setIfInBounds_toArray, List.set_cons_zero, List.set_cons_succ]
        refine takeD (i := 3) (oi := _) (v := ?_) (some 13) rfl rfl (by kernel_rfl) (by kernel_rfl) (by kernel_rfl) (fun _ _ _ h => h) (Or.inl ⟨by rfl, ?_⟩) (by assumption) ?_
        rotate_left
        · intro wS hSw; obtain ⟨q', rfl⟩ := hSw; go_simp; (try rw [if_neg (by omega)]); try with_reducible rfl
        try simp only [Act.put, List.setIfInBounds_toArray, List.set_cons_zero, List.set_cons_succ]
        refine wpAnyH_ready (rs := [4]) (by kernel_rfl) (by simp) ?_
        refine AllReadyH.cons (o := _) rfl (fun K hK => ?_) AllReadyH.nil
        go_simp
        refine (l1In_any _ _ _ _).mono ?_
        rintro e w' ⟨rfl, rfl⟩
        rw [t1]
        go_wp2_with fail
        refine hK.out _ _ (hHeld) (fun hNext => ?_)
        clear hK K hHeld
        revert hNext
        intro hHeld
        try simp only [Act.put, List.setIfInBounds_toArray, List.set_cons_zero, List.set_cons_succ]
        refine takeD (i := 5) (oi := _) (v := ?_) (some 15) rfl rfl (by kernel_rfl) (by kernel_rfl) (by kernel_rfl) (fun _ _ _ h => h) (Or.inl ⟨by rfl, ?_⟩) (by assumption) ?_
        rotate_left
        · intro wS hSw; obtain ⟨q', rfl⟩ := hSw; go_simp; (try rw [if_neg (by omega)]); try with_reducible rfl
        try simp only [Act.put, List.setIfInBounds_toArray, List.set_cons_zero, List.set_cons_succ]
        refine takeD (i := 6) (oi := _) (v := ?_) (some 16) rfl rfl (by kernel_rfl) (by kernel_rfl) (by kernel_rfl) (fun _ _ _ h => h) (Or.inl ⟨by rfl, ?_⟩) (by assumption) ?_
        rotate_left
        · intro wS hSw; obtain ⟨q', rfl⟩ := hSw; go_simp; (try rw [if_neg (by omega)]); try with_reducible rfl
        try simp only [Act.put, List.setIfInBounds_toArray, List.set_cons_zero, List.set_cons_succ]
        refine takeD (i := 7) (oi := _) (v := undef) (some 17) rfl rfl (by kernel_rfl) (by kernel_rfl) (by kernel_rfl) (fun _ _ _ h => h) (Or.inr ⟨by rfl, rfl⟩) (by assumption) ?_
        try simp only [Act.put, List.setIfInBounds_toArray, List.set_cons_zero, List.set_cons_succ]
        refine takeD (i := 8) (oi := _) (v := undef) (some 18) rfl rfl (by kernel_rfl) (by kernel_rfl) (by kernel_rfl) (fun _ _ _ h => h) (Or.inr ⟨by rfl, rfl⟩) (by assumption) ?_
        try simp only [Act.put, List.setIfInBounds_toArray, List.set_cons_zero, List.set_cons_succ]
        refine takeD (i := 9) (oi := _) (v := undef) (some 19) rfl rfl (by kernel_rfl) (by kernel_rfl) (by kernel_rfl) (fun _ _ _ h => h) (Or.inr ⟨by rfl, rfl⟩) (by assumption) ?_
        try simp only [Act.put, List.setIfInBounds_toArray, List.set_cons_zero, List.set_cons_succ]
        refine takeD (i := 10) (oi := _) (v := undef) (some 20) rfl rfl (by kernel_rfl) (by kernel_rfl) (by kernel_rfl) (fun _ _ _ h => h) (Or.inr ⟨by rfl, rfl⟩) (by assumption) ?_
        try simp only [Act.put, List.setIfInBounds_toArray, List.set_cons_zero, List.set_cons_succ]
        refine takeD (i := 11) (oi := _) (v := undef) (some 21) rfl rfl (by kernel_rfl) (by kernel_rfl) (by kernel_rfl) (fun _ _ _ h => h) (Or.inr ⟨by rfl, rfl⟩) (by assumption) ?_
        try simp only [Act.put, List.setIfInBounds_toArray, List.set_cons_zero, List.set_cons_succ]
        refine takeD (i := 12) (oi := _) (v := undef) (some 22) rfl rfl (by kernel_rfl) (by kernel_rfl) (by kernel_rfl) (fun _ _ _ h => h) (Or.inr ⟨by rfl, rfl⟩) (by assumption) ?_
        try simp only [Act.put, List.setIfInBounds_toArray, List.set_cons_zero, List.set_cons_succ]
        refine takeD (i := 13) (oi := _) (v := undef) (some 23) rfl rfl (by kernel_rfl) (by kernel_rfl) (by kernel_rfl) (fun _ _ _ h => h) (Or.inr ⟨by rfl, rfl⟩) (by assumption) ?_
        try simp only [Act.put, List.setIfInBounds_toArray, List.set_cons_zero, List.set_cons_succ]
        refine takeD (i := 14) (oi := _) (v := undef) (some 24) rfl rfl (by kernel_rfl) (by kernel_rfl) (by kernel_rfl) (fun _ _ _ h => h) (Or.inr ⟨by rfl, rfl⟩) (by assumption) ?_
        try simp only [Act.put, List.setIfInBounds_toArray, List.set_cons_zero, List.set_cons_succ]
        refine takeD (i := 15) (oi := _) (v := undef) (some 25) rfl rfl (by kernel_rfl) (by kernel_rfl) (by kernel_rfl) (fun _ _ _ h => h) (Or.inr ⟨by rfl, rfl⟩) (by assumption) ?_
        try simp only [Act.put, List.setIfInBounds_toArray, List.set_cons_zero, List.set_cons_succ]
        refine takeD (i := 16) (oi := _) (v := undef) (some 26) rfl rfl (by kernel_rfl) (by kernel_rfl) (by kernel_rfl) (fun _ _ _ h => h) (Or.inr ⟨by rfl, rfl⟩) (by assumption) ?_
        try simp only [Act.put, List.setIfInBounds_toArray, List.set_cons_zero, List.set_cons_succ]
        refine takeD (i := 17) (oi := _) (v := undef) (some 27) rfl rfl (by kernel_rfl) (by kernel_rfl) (by kernel_rfl) (fun _ _ _ h => h) (Or.inr ⟨by rfl, rfl⟩) (by assumption) ?_
        try simp only [Act.put, List.setIfInBounds_toArray, List.set_cons_zero, List.set_cons_succ]
        refine takeD (i := 18) (oi := _) (v := undef) (some 28) rfl rfl (by kernel_rfl) (by kernel_rfl) (by kernel_rfl) (fun _ _ _ h => h) (Or.inr ⟨by rfl, rfl⟩) (by assumption) ?_
        try simp only [Act.put, List.setIfInBounds_toArray, List.set_cons_zero, List.set_cons_succ]
        refine takeD (i := 19) (oi := _) (v := undef) (some 29) rfl rfl (by kernel_rfl) (by kernel_rfl) (by kernel_rfl) (fun _ _ _ h => h) (Or.inr ⟨by rfl, rfl⟩) (by assumption) ?_
        try simp only [Act.put, List.setIfInBounds_toArray, List.set_cons_zero, List.set_cons_succ]
        refine takeD (i := 20) (oi := _) (v := undef) (some 30) rfl rfl (by kernel_rfl) (by kernel_rfl) (by kernel_rfl) (fun _ _ _ h => h) (Or.inr ⟨by rfl, rfl⟩) (by assumption) ?_
        try simp only [Act.put, List.setIfInBounds_toArray, List.set_cons_zero, List.set_cons_succ]
        refine takeD (i := 21) (oi := _) (v := ?_) (some 31) rfl rfl (by kernel_rfl) (by kernel_rfl) (by kernel_rfl) (fun _ _ _ h => h) (Or.inl ⟨by rfl, ?_⟩) (by assumption) ?_
        rotate_left
        · intro wS hSw; obtain ⟨q', rfl⟩ := hSw; go_simp; (try rw [if_neg (by omega)]); try with_reducible rfl
        try simp only [Act.put, List.setIfInBounds_toArray, List.set_cons_zero, List.set_cons_succ]
        refine wpAnyH_done (by kernel_rfl) ?_ _
        clear hHeld
        go_wp2
        go_ret
        exact ⟨ret_bool HN.out.symm, (by first | exact Qt.d _ _ | exact Qt.dd _ _ _ | exact ⟨m + 1, rfl⟩)⟩
      · by_cases hk0 : k = 0
        · have HA := hideP (own_good ha.out hx t1 (by unfold prevAt; rw [if_pos hk0]; rfl))
          have d2 : decide (0 < k) = false := decide_eq_false (by omega)
          clear hx hk0
          go_wp2
          refine wp_region_held_drew (S := fun w' => Qt w w') (by kernel_rfl) (⟨m + 1, rfl⟩) (fun hHeld => ?_)
          refine takeD (i := 0) (oi := _) (v := ?_) (some 10) rfl rfl (by kernel_rfl) (by kernel_rfl) (by kernel_rfl) (fun _ _ _ h => h) (Or.inl ⟨by rfl, ?_⟩) (by assumption) ?_
          rotate_left
          · intro wS hSw; obtain ⟨q', rfl⟩ := hSw; go_simp; (try rw [if_neg (by omega)]); try with_reducible rfl
          try simp only [Act.put, List.setIfInBounds_toArray, List.set_cons_zero, List.set_cons_succ]
          refine takeD (i := 1) (oi := _) (v := ?_) (some 11) rfl rfl (by kernel_rfl) (by kernel_rfl) (by kernel_rfl) (fun _ _ _ h => h) (Or.inl ⟨by rfl, ?_⟩) (by assumption) ?_
          rotate_left
          · intro wS hSw; obtain ⟨q', rfl⟩ := hSw; go_simp; (try rw [if_neg (by omega)]); try with_reducible rfl
          try simp only [Act.put, List.setIfInBounds_toArray, List.set_cons_zero, List.set_cons_succ]
          refine takeD (i := 2) (oi := _) (v := ?_) (some 12) rfl rfl (by kernel_rfl) (by kernel_rfl) (by kernel_rfl) (fun _ _ _ h => h) (Or.inl ⟨by rfl, ?_⟩) (by assumption) ?_
          rotate_left
          · intro wS hSw; obtain ⟨q', rfl⟩ := hSw; go_simp; (try rw [if_neg (by omega)]); try with_reducible rfl
          try simp only [Act.put, List.setIfInBounds_toArray, List.set_cons_zero, List.set_cons_succ]
          refine takeD (i := 3) (oi := _) (v := ?_) (some 13) rfl rfl (by kernel_rfl) (by kernel_rfl) (by kernel_rfl) (fun _ _ _ h => h) (Or.inl ⟨by rfl, ?_⟩) (by assumption) ?_
          rotate_left
          · intro wS hSw; obtain ⟨q', rfl⟩ := hSw; go_simp; (try rw [if_neg (by omega)]); try with_reducible rfl
          try simp only [Act.put, List.setIfInBounds_toArray, List.set_cons_zero, List.set_cons_succ]
          refine wpAnyH_ready (rs := [4]) (by kernel_rfl) (by simp) ?_
          refine AllReadyH.cons (o := _) rfl (fun K hK => ?_) AllReadyH.nil
          go_simp
          refine (l1In_any _ _ _ _).mono ?_
          rintro e w' ⟨rfl, rfl⟩
          rw [t1]
          go_wp2_with fail
          refine hK.out _ _ (hHeld) (fun hNext => ?_)
          clear hK K hHeld
          revert hNext
          intro hHeld
          try simp only [Act.put, List.setIfInBounds_toArray, List.set_cons_zero, List.set_cons_succ]
          refine takeD (i := 5) (oi := _) (v := ?_) (some 15) rfl rfl (by kernel_rfl) (by kernel_rfl) (by kernel_rfl) (fun _ _ _ h => h) (Or.inl ⟨by rfl, ?_⟩) (by assumption) ?_
          rotate_left
          · intro wS hSw; obtain ⟨q', rfl⟩ := hSw; go_simp; (try rw [if_neg (by omega)]); try with_reducible rfl
          try simp only [Act.put, List.setIfInBounds_toArray, List.set_cons_zero, List.set_cons_succ]
          refine takeD (i := 6) (oi := _) (v := ?_) (some 16) rfl rfl (by kernel_rfl) (by kernel_rfl) (by kernel_rfl) (fun _ _ _ h => h) (Or.inl ⟨by rfl, ?_⟩) (by assumption) ?_
          rotate_left
          · intro wS hSw; obtain ⟨q', rfl⟩ := hSw; go_simp; (try rw [if_neg (by omega)]); try with_reducible rfl
          try simp only [Act.put, List.setIfInBounds_toArray, List.set_cons_zero, List.set_cons_succ]
          refine takeD (i := 7) (oi := _) (v := ?_) (some 17) rfl rfl (by kernel_rfl) (by kernel_rfl) (by kernel_rfl) (fun _ _ _ h => h) (Or.inl ⟨by rfl, ?_⟩) (by assumption) ?_
          rotate_left
          · intro wS hSw; obtain ⟨q', rfl⟩ := hSw; go_simp; (try rw [if_neg (by omega)]); try with_reducible rfl
          try simp only [Act.put, List.setIfInBounds_toArray, List.set_cons_zero, List.set_cons_succ]
          refine takeD (i := 8) (oi := _) (v := ?_) (some 18) rfl rfl (by kernel_rfl) (by kernel_rfl) (by kernel_rfl) (fun _ _ _ h => h) (Or.inl ⟨by rfl, ?_⟩) (by assumption) ?_
          rotate_left
          · intro wS hSw; obtain ⟨q', rfl⟩ := hSw; go_simp; (try rw [if_neg (by omega)]); try with_reducible rfl
          try simp only [Act.put, List.setIfInBounds_toArray, List.set_cons_zero, List.set_cons_succ]
          refine takeD (i := 9) (oi := _) (v := ?_) (some 19) rfl rfl (by kernel_rfl) (by kernel_rfl) (by kernel_rfl) (fun _ _ _ h => h) (Or.inl ⟨by rfl, ?_⟩) (by assumption) ?_
          rotate_left
          · intro wS hSw; obtain ⟨q', rfl⟩ := hSw; go_simp; (try rw [if_neg (by omega)]); try with_reducible rfl
          try simp only [Act.put, List.setIfInBounds_toArray, List.set_cons_zero, List.set_cons_succ]
          refine takeD (i := 10) (oi := _) (v := undef) (some 20) rfl rfl (by kernel_rfl) (by kernel_rfl) (by kernel_rfl) (fun _ _ _ h => h) (Or.inr ⟨by rfl, rfl⟩) (by assumption) ?_
          try simp only [Act.put, List.setIfInBounds_toArray, List.set_cons_zero, List.set_cons_succ]
          refine takeD (i := 11) (oi := _) (v := undef) (some 21) rfl rfl (by kernel_rfl) (by kernel_rfl) (by kernel_rfl) (fun _ _ _ h => h) (Or.inr ⟨by rfl, rfl⟩) (by assumption) ?_
          try simp only [Act.put, List.setIfInBounds_toArray, List.set_cons_zero, List.set_cons_succ]
          refine takeD (i := 12) (oi := _) (v := undef) (some 22) rfl rfl (by kernel_rfl) (by kernel_rfl) (by kernel_rfl) (fun _ _ _ h => h) (Or.inr ⟨by rfl, rfl⟩) (by assumption) ?_
          try simp only [Act.put, List.setIfInBounds_toArray, List.set_cons_zero, List.set_cons_succ]
          refine takeD (i := 13) (oi := _) (v := undef) (some 23) rfl rfl (by kernel_rfl) (by kernel_rfl) (by kernel_rfl) (fun _ _ _ h => h) (Or.inr ⟨by rfl, rfl⟩) (by assumption) ?_
          try simp only [Act.put, List.setIfInBounds_toArray, List.set_cons_zero, List.set_cons_succ]
          refine takeD (i := 14) (oi := _) (v := undef) (some 24) rfl rfl (by kernel_rfl) (by kernel_rfl) (by kernel_rfl) (fun _ _ _ h => h) (Or.inr ⟨by rfl, rfl⟩) (by assumption) ?_
          try simp only [Act.put, List.setIfInBounds_toArray, List.set_cons_zero, List.set_cons_succ]
          refine takeD (i := 15) (oi := _) (v := undef) (some 25) rfl rfl (by kernel_rfl) (by kernel_rfl) (by kernel_rfl) (fun _ _ _ h => h) (Or.inr ⟨by rfl, rfl⟩) (by assumption) ?_
          try simp only [Act.put, List.setIfInBounds_toArray, List.set_cons_zero, List.set_cons_succ]
          refine takeD (i := 16) (oi := _) (v := undef) (some 26) rfl rfl (by kernel_rfl) (by kernel_rfl) (by kernel_rfl) (fun _ _ _ h => h) (Or.inr ⟨by rfl, rfl⟩) (by assumption) ?_
          try simp only [Act.put, List.setIfInBounds_toArray, List.set_cons_zero, List.set_cons_succ]
          refine takeD (i := 17) (oi := _) (v := undef) (some 27) rfl rfl (by kernel_rfl) (by kernel_rfl) (by kernel_rfl) (fun _ _ _ h => h) (Or.inr ⟨by rfl, rfl⟩) (by assumption) ?_
          try simp only [Act.put, List.setIfInBounds_toArray, List.set_cons_zero, List.set_cons_succ]
          refine takeD (i := 18) (oi := _) (v := undef) (some 28) rfl rfl (by kernel_rfl) (by kernel_rfl) (by kernel_rfl) (fun _ _ _ h => h) (Or.inr ⟨by rfl, rfl⟩) (by assumption) ?_
          try simp only [Act.put, List.setIfInBounds_toArray, List.set_cons_zero, List.set_cons_succ]
          refine takeD (i := 19) (oi := _) (v := undef) (some 29) rfl rfl (by kernel_rfl) (by kernel_rfl) (by kernel_rfl) (fun _ _ _ h => h) (Or.inr ⟨by rfl, rfl⟩) (by assumption) ?_
          try simp only [Act.put, List.setIfInBounds_toArray, List.set_cons_zero, List.set_cons_succ]
          refine takeD (i := 20) (oi := _) (v := ?_) (some 30) rfl rfl (by kernel_rfl) (by kernel_rfl) (by kernel_rfl) (fun _ _ _ h => h) (Or.inl ⟨by rfl, ?_⟩) (by assumption) ?_
          rotate_left
          · intro wS hSw; obtain ⟨q', rfl⟩ := hSw; go_simp; (try rw [if_neg (by omega)]); try with_reducible rfl
          try simp only [Act.put, List.setIfInBounds_toArray, List.set_cons_zero, List.set_cons_succ]
          refine takeD (i := 21) (oi := _) (v := ?_) (some 31) rfl rfl (by kernel_rfl) (by kernel_rfl) (by kernel_rfl) (fun _ _ _ h => h) (Or.inl ⟨by rfl, ?_⟩) (by assumption) ?_
          rotate_left
          · intro wS hSw; obtain ⟨q', rfl⟩ := hSw; go_simp; (try rw [if_neg (by omega)]); try with_reducible rfl
          try simp only [Act.put, List.setIfInBounds_toArray, List.set_cons_zero, List.set_cons_succ]
          refine wpAnyH_done (by kernel_rfl) ?_ _
          clear hHeld
          go_wp2
          go_roundg (gk - 1)
          case measure => omega
          case rel => exact ⟨k + 1, by omega, by omega, by go_num, HA, (by first | exact Qt.d _ _ | exact Qt.dd _ _ _ | exact ⟨m + 1, rfl⟩)⟩
        · obtain ⟨y, hy⟩ := some_at (l := l) (k := k - 1) (by omega)
          obtain ⟨b', o', e', hbw', g1⟩ := rdInt h hy
          cases e'
          have hp : prevAt l k = some y := by unfold prevAt; rw [if_neg hk0]; exact hy
          have d2 : decide (0 < k) = true := decide_eq_true (by omega)
          have k5 : (1 : Int) ≤ (k : Int) := by omega
          have k6 : 0 < k := by omega
          have zk : IntKind.i64.wrap ((k : Int) - 1) = (k : Int) - 1 := IntWalk.i64_in _ (by omega)
          have kt : ((k : Int) - 1).toNat = k - 1 := by omega
          have k2 : (0 : Int) ≤ (k : Int) - 1 := by omega
          have k3 : (k : Int) - 1 < (l.length : Int) := by omega
          by_cases hxy : x ≤ y
          · have HN : Hid (ownOk l = false) := hideP (own_bad ha.out hx (.inr (by rw [hp]; exact decide_eq_false (by omega))))
            clear hx hy hp hk0
            go_wp2
            refine wp_region_held_drew (S := fun w' => Qt w w') (by kernel_rfl) (⟨m + 1, rfl⟩) (fun hHeld => ?_)
            refine takeD (i := 0) (oi := _) (v := ?_) (some 10) rfl rfl (by kernel_rfl) (by kernel_rfl) (by kernel_rfl) (fun _ _ _ h => h) (Or.inl ⟨by rfl, ?_⟩) (by assumption) ?_
            rotate_left
            · intro wS hSw; obtain ⟨q', rfl⟩ := hSw; go_simp; (try rw [if_neg (by omega)]); try with_reducible rfl
            try simp only [Act.put, List.setIfInBounds_toArray, List.set_cons_zero, List.set_cons_succ]
            refine takeD (i := 1) (oi := _) (v := ?_) (some 11) rfl rfl (by kernel_rfl) (by kernel_rfl) (by kernel_rfl) (fun _ _ _ h => h) (Or.inl ⟨by rfl, ?_⟩) (by assumption) ?_
            rotate_left
            · intro wS hSw; obtain ⟨q', rfl⟩ := hSw; go_simp; (try rw [if_neg (by omega)]); try with_reducible rfl
            try simp only [Act.put, List.setIfInBounds_toArray, List.set_cons_zero, List.set_cons_succ]
            refine takeD (i := 2) (oi := _) (v := ?_) (some 12) rfl rfl (by kernel_rfl) (by kernel_rfl) (by kernel_rfl) (fun _ _ _ h => h) (Or.inl ⟨by rfl, ?_⟩) (by assumption) ?_
            rotate_left
            · intro wS hSw; obtain ⟨q', rfl⟩ := hSw; go_simp; (try rw [if_neg (by omega)]); try with_reducible rfl
            try simp only [Act.put, List.setIfInBounds_toArray, List.set_cons_zero, List.set_cons_succ]
            refine takeD (i := 3) (oi := _) (v := ?_) (some 13) rfl rfl (by kernel_rfl) (by kernel_rfl) (by kernel_rfl) (fun _ _ _ h => h) (Or.inl ⟨by rfl, ?_⟩) (by assumption) ?_
            rotate_left
            · intro wS hSw; obtain ⟨q', rfl⟩ := hSw; go_simp; (try rw [if_neg (by omega)]); try with_reducible rfl
            try simp only [Act.put, List.setIfInBounds_toArray, List.set_cons_zero, List.set_cons_succ]
            refine wpAnyH_ready (rs := [4]) (by kernel_rfl) (by simp) ?_
            refine AllReadyH.cons (o := _) rfl (fun K hK => ?_) AllReadyH.nil
            go_simp
            refine (l1In_any _ _ _ _).mono ?_
            rintro e w' ⟨rfl, rfl⟩
            rw [t1]
            go_wp2_with fail
            refine hK.out _ _ (hHeld) (fun hNext => ?_)
            clear hK K hHeld
            revert hNext
            intro hHeld
            try simp only [Act.put, List.setIfInBounds_toArray, List.set_cons_zero, List.set_cons_succ]
            refine takeD (i := 5) (oi := _) (v := ?_) (some 15) rfl rfl (by kernel_rfl) (by kernel_rfl) (by kernel_rfl) (fun _ _ _ h => h) (Or.inl ⟨by rfl, ?_⟩) (by assumption) ?_
            rotate_left
            · intro wS hSw; obtain ⟨q', rfl⟩ := hSw; go_simp; (try rw [if_neg (by omega)]); try with_reducible rfl
            try simp only [Act.put, List.setIfInBounds_toArray, List.set_cons_zero, List.set_cons_succ]
            refine takeD (i := 6) (oi := _) (v := ?_) (some 16) rfl rfl (by kernel_rfl) (by kernel_rfl) (by kernel_rfl) (fun _ _ _ h => h) (Or.inl ⟨by rfl, ?_⟩) (by assumption) ?_
            rotate_left
            · intro wS hSw; obtain ⟨q', rfl⟩ := hSw; go_simp; (try rw [if_neg (by omega)]); try with_reducible rfl
            try simp only [Act.put, List.setIfInBounds_toArray, List.set_cons_zero, List.set_cons_succ]
            refine takeD (i := 7) (oi := _) (v := ?_) (some 17) rfl rfl (by kernel_rfl) (by kernel_rfl) (by kernel_rfl) (fun _ _ _ h => h) (Or.inl ⟨by rfl, ?_⟩) (by assumption) ?_
            rotate_left
            · intro wS hSw; obtain ⟨q', rfl⟩ := hSw; go_simp; (try rw [if_neg (by omega)]); try with_reducible rfl
            try simp only [Act.put, List.setIfInBounds_toArray, List.set_cons_zero, List.set_cons_succ]
            refine takeD (i := 8) (oi := _) (v := ?_) (some 18) rfl rfl (by kernel_rfl) (by kernel_rfl) (by kernel_rfl) (fun _ _ _ h => h) (Or.inl ⟨by rfl, ?_⟩) (by assumption) ?_
            rotate_left
            · intro wS hSw; obtain ⟨q', rfl⟩ := hSw; go_simp; (try rw [if_neg (by omega)]); try with_reducible rfl
            try simp only [Act.put, List.setIfInBounds_toArray, List.set_cons_zero, List.set_cons_succ]
            refine takeD (i := 9) (oi := _) (v := ?_) (some 19) rfl rfl (by kernel_rfl) (by kernel_rfl) (by kernel_rfl) (fun _ _ _ h => h) (Or.inl ⟨by rfl, ?_⟩) (by assumption) ?_
            rotate_left
            · intro wS hSw; obtain ⟨q', rfl⟩ := hSw; go_simp; (try rw [if_neg (by omega)]); try with_reducible rfl
            try simp only [Act.put, List.setIfInBounds_toArray, List.set_cons_zero, List.set_cons_succ]
            refine takeD (i := 10) (oi := _) (v := ?_) (some 20) rfl rfl (by kernel_rfl) (by kernel_rfl) (by kernel_rfl) (fun _ _ _ h => h) (Or.inl ⟨by rfl, ?_⟩) (by assumption) ?_
            rotate_left
            · intro wS hSw; obtain ⟨q', rfl⟩ := hSw; go_simp; (try rw [if_neg (by omega)]); try with_reducible rfl
            try simp only [Act.put, List.setIfInBounds_toArray, List.set_cons_zero, List.set_cons_succ]
            refine takeD (i := 11) (oi := _) (v := ?_) (some 21) rfl rfl (by kernel_rfl) (by kernel_rfl) (by kernel_rfl) (fun _ _ _ h => h) (Or.inl ⟨by rfl, ?_⟩) (by assumption) ?_
            rotate_left
            · intro wS hSw; obtain ⟨q', rfl⟩ := hSw; go_simp; (try rw [if_neg (by omega)]); try with_reducible rfl
            try simp only [Act.put, List.setIfInBounds_toArray, List.set_cons_zero, List.set_cons_succ]
            refine takeD (i := 12) (oi := _) (v := ?_) (some 22) rfl rfl (by kernel_rfl) (by kernel_rfl) (by kernel_rfl) (fun _ _ _ h => h) (Or.inl ⟨by rfl, ?_⟩) (by assumption) ?_
            rotate_left
            · intro wS hSw; obtain ⟨q', rfl⟩ := hSw; go_simp; (try rw [if_neg (by omega)]); try with_reducible rfl
            try simp only [Act.put, List.setIfInBounds_toArray, List.set_cons_zero, List.set_cons_succ]
            refine takeD (i := 13) (oi := _) (v := ?_) (some 23) rfl rfl (by kernel_rfl) (by kernel_rfl) (by kernel_rfl) (fun _ _ _ h => h) (Or.inl ⟨by rfl, ?_⟩) (by assumption) ?_
            rotate_left
            · intro wS hSw; obtain ⟨q', rfl⟩ := hSw; go_simp; (try rw [if_neg (by omega)]); try with_reducible rfl
            try simp only [Act.put, List.setIfInBounds_toArray, List.set_cons_zero, List.set_cons_succ]
            refine takeD (i := 14) (oi := _) (v := ?_) (some 24) rfl rfl (by kernel_rfl) (by kernel_rfl) (by kernel_rfl) (fun _ _ _ h => h) (Or.inl ⟨by rfl, ?_⟩) (by assumption) ?_
            rotate_left
            · intro wS hSw; obtain ⟨q', rfl⟩ := hSw; go_simp; (try rw [if_neg (by omega)]); try with_reducible rfl
            try simp only [Act.put, List.setIfInBounds_toArray, List.set_cons_zero, List.set_cons_succ]
            refine takeD (i := 15) (oi := _) (v := ?_) (some 25) rfl rfl (by kernel_rfl) (by kernel_rfl) (by kernel_rfl) (fun _ _ _ h => h) (Or.inl ⟨by rfl, ?_⟩) (by assumption) ?_
            rotate_left
            · intro wS hSw; obtain ⟨q', rfl⟩ := hSw; go_simp; (try rw [if_neg (by omega)]); try with_reducible rfl
            try simp only [Act.put, List.setIfInBounds_toArray, List.set_cons_zero, List.set_cons_succ]
            refine takeD (i := 16) (oi := _) (v := ?_) (some 26) rfl rfl (by kernel_rfl) (by kernel_rfl) (by kernel_rfl) (fun _ _ _ h => h) (Or.inl ⟨by rfl, ?_⟩) (by assumption) ?_
            rotate_left
            · intro wS hSw; obtain ⟨q', rfl⟩ := hSw; go_simp; (try rw [if_neg (by omega)]); try with_reducible rfl
            try simp only [Act.put, List.setIfInBounds_toArray, List.set_cons_zero, List.set_cons_succ]
            refine takeD (i := 17) (oi := _) (v := ?_) (some 27) rfl rfl (by kernel_rfl) (by kernel_rfl) (by kernel_rfl) (fun _ _ _ h => h) (Or.inl ⟨by rfl, ?_⟩) (by assumption) ?_
            rotate_left
            · intro wS hSw; obtain ⟨q', rfl⟩ := hSw; go_simp; (try rw [if_neg (by omega)]); try with_reducible rfl
            try simp only [Act.put, List.setIfInBounds_toArray, List.set_cons_zero, List.set_cons_succ]
            refine takeD (i := 18) (oi := _) (v := ?_) (some 28) rfl rfl (by kernel_rfl) (by kernel_rfl) (by kernel_rfl) (fun _ _ _ h => h) (Or.inl ⟨by rfl, ?_⟩) (by assumption) ?_
            rotate_left
            · intro wS hSw; obtain ⟨q', rfl⟩ := hSw; go_simp; (try rw [if_neg (by omega)]); try with_reducible rfl
            try simp only [Act.put, List.setIfInBounds_toArray, List.set_cons_zero, List.set_cons_succ]
            refine takeD (i := 19) (oi := _) (v := ?_) (some 29) rfl rfl (by kernel_rfl) (by kernel_rfl) (by kernel_rfl) (fun _ _ _ h => h) (Or.inl ⟨by rfl, ?_⟩) (by assumption) ?_
            rotate_left
            · intro wS hSw; obtain ⟨q', rfl⟩ := hSw; go_simp; (try rw [if_neg (by omega)]); try with_reducible rfl
            try simp only [Act.put, List.setIfInBounds_toArray, List.set_cons_zero, List.set_cons_succ]
            refine takeD (i := 20) (oi := _) (v := ?_) (some 30) rfl rfl (by kernel_rfl) (by kernel_rfl) (by kernel_rfl) (fun _ _ _ h => h) (Or.inl ⟨by rfl, ?_⟩) (by assumption) ?_
            rotate_left
            · intro wS hSw; obtain ⟨q', rfl⟩ := hSw; go_simp; (try rw [if_neg (by omega)]); try with_reducible rfl
            try simp only [Act.put, List.setIfInBounds_toArray, List.set_cons_zero, List.set_cons_succ]
            refine takeD (i := 21) (oi := _) (v := ?_) (some 31) rfl rfl (by kernel_rfl) (by kernel_rfl) (by kernel_rfl) (fun _ _ _ h => h) (Or.inl ⟨by rfl, ?_⟩) (by assumption) ?_
            rotate_left
            · intro wS hSw; obtain ⟨q', rfl⟩ := hSw; go_simp; (try rw [if_neg (by omega)]); try with_reducible rfl
            try simp only [Act.put, List.setIfInBounds_toArray, List.set_cons_zero, List.set_cons_succ]
            refine wpAnyH_done (by kernel_rfl) ?_ _
            clear hHeld
            go_wp2
            go_ret
            exact ⟨ret_bool HN.out.symm, (by first | exact Qt.d _ _ | exact Qt.dd _ _ _ | exact ⟨m + 1, rfl⟩)⟩
          · have HA := hideP (own_good ha.out hx t1 (by rw [hp]; exact decide_eq_true (by omega)))
            clear hx hy hp hk0
            go_wp2
            refine wp_region_held_drew (S := fun w' => Qt w w') (by kernel_rfl) (⟨m + 1, rfl⟩) (fun hHeld => ?_)
            refine takeD (i := 0) (oi := _) (v := ?_) (some 10) rfl rfl (by kernel_rfl) (by kernel_rfl) (by kernel_rfl) (fun _ _ _ h => h) (Or.inl ⟨by rfl, ?_⟩) (by assumption) ?_
            rotate_left
            · intro wS hSw; obtain ⟨q', rfl⟩ := hSw; go_simp; (try rw [if_neg (by omega)]); try with_reducible rfl
            try simp only [Act.put, List.setIfInBounds_toArray, List.set_cons_zero, List.set_cons_succ]
            refine takeD (i := 1) (oi := _) (v := ?_) (some 11) rfl rfl (by kernel_rfl) (by kernel_rfl) (by kernel_rfl) (fun _ _ _ h => h) (Or.inl ⟨by rfl, ?_⟩) (by assumption) ?_
            rotate_left
            · intro wS hSw; obtain ⟨q', rfl⟩ := hSw; go_simp; (try rw [if_neg (by omega)]); try with_reducible rfl
            try simp only [Act.put, List.setIfInBounds_toArray, List.set_cons_zero, List.set_cons_succ]
            refine takeD (i := 2) (oi := _) (v := ?_) (some 12) rfl rfl (by kernel_rfl) (by kernel_rfl) (by kernel_rfl) (fun _ _ _ h => h) (Or.inl ⟨by rfl, ?_⟩) (by assumption) ?_
            rotate_left
            · intro wS hSw; obtain ⟨q', rfl⟩ := hSw; go_simp; (try rw [if_neg (by omega)]); try with_reducible rfl
            try simp only [Act.put, List.setIfInBounds_toArray, List.set_cons_zero, List.set_cons_succ]
            refine takeD (i := 3) (oi := _) (v := ?_) (some 13) rfl rfl (by kernel_rfl) (by kernel_rfl) (by kernel_rfl) (fun _ _ _ h => h) (Or.inl ⟨by rfl, ?_⟩) (by assumption) ?_
            rotate_left
            · intro wS hSw; obtain ⟨q', rfl⟩ := hSw; go_simp; (try rw [if_neg (by omega)]); try with_reducible rfl
            try simp only [Act.put, List.setIfInBounds_toArray, List.set_cons_zero, List.set_cons_succ]
            refine wpAnyH_ready (rs := [4]) (by kernel_rfl) (by simp) ?_
            refine AllReadyH.cons (o := _) rfl (fun K hK => ?_) AllReadyH.nil
            go_simp
            refine (l1In_any _ _ _ _).mono ?_
            rintro e w' ⟨rfl, rfl⟩
            rw [t1]
            go_wp2_with fail
            refine hK.out _ _ (hHeld) (fun hNext => ?_)
            clear hK K hHeld
            revert hNext
            intro hHeld
            try simp only [Act.put, List.setIfInBounds_toArray, List.set_cons_zero, List.set_cons_succ]
            refine takeD (i := 5) (oi := _) (v := ?_) (some 15) rfl rfl (by kernel_rfl) (by kernel_rfl) (by kernel_rfl) (fun _ _ _ h => h) (Or.inl ⟨by rfl, ?_⟩) (by assumption) ?_
            rotate_left
            · intro wS hSw; obtain ⟨q', rfl⟩ := hSw; go_simp; (try rw [if_neg (by omega)]); try with_reducible rfl
            try simp only [Act.put, List.setIfInBounds_toArray, List.set_cons_zero, List.set_cons_succ]
            refine takeD (i := 6) (oi := _) (v := ?_) (some 16) rfl rfl (by kernel_rfl) (by kernel_rfl) (by kernel_rfl) (fun _ _ _ h => h) (Or.inl ⟨by rfl, ?_⟩) (by assumption) ?_
            rotate_left
            · intro wS hSw; obtain ⟨q', rfl⟩ := hSw; go_simp; (try rw [if_neg (by omega)]); try with_reducible rfl
            try simp only [Act.put, List.setIfInBounds_toArray, List.set_cons_zero, List.set_cons_succ]
            refine takeD (i := 7) (oi := _) (v := ?_) (some 17) rfl rfl (by kernel_rfl) (by kernel_rfl) (by kernel_rfl) (fun _ _ _ h => h) (Or.inl ⟨by rfl, ?_⟩) (by assumption) ?_
            rotate_left
            · intro wS hSw; obtain ⟨q', rfl⟩ := hSw; go_simp; (try rw [if_neg (by omega)]); try with_reducible rfl
            try simp only [Act.put, List.setIfInBounds_toArray, List.set_cons_zero, List.set_cons_succ]
            refine takeD (i := 8) (oi := _) (v := ?_) (some 18) rfl rfl (by kernel_rfl) (by kernel_rfl) (by kernel_rfl) (fun _ _ _ h => h) (Or.inl ⟨by rfl, ?_⟩) (by assumption) ?_
            rotate_left
            · intro wS hSw; obtain ⟨q', rfl⟩ := hSw; go_simp; (try rw [if_neg (by omega)]); try with_reducible rfl
            try simp only [Act.put, List.setIfInBounds_toArray, List.set_cons_zero, List.set_cons_succ]
            refine takeD (i := 9) (oi := _) (v := ?_) (some 19) rfl rfl (by kernel_rfl) (by kernel_rfl) (by kernel_rfl) (fun _ _ _ h => h) (Or.inl ⟨by rfl, ?_⟩) (by assumption) ?_
            rotate_left
            · intro wS hSw; obtain ⟨q', rfl⟩ := hSw; go_simp; (try rw [if_neg (by omega)]); try with_reducible rfl
            try simp only [Act.put, List.setIfInBounds_toArray, List.set_cons_zero, List.set_cons_succ]
            refine takeD (i := 10) (oi := _) (v := ?_) (some 20) rfl rfl (by kernel_rfl) (by kernel_rfl) (by kernel_rfl) (fun _ _ _ h => h) (Or.inl ⟨by rfl, ?_⟩) (by assumption) ?_
            rotate_left
            · intro wS hSw; obtain ⟨q', rfl⟩ := hSw; go_simp; (try rw [if_neg (by omega)]); try with_reducible rfl
            try simp only [Act.put, List.setIfInBounds_toArray, List.set_cons_zero, List.set_cons_succ]
            refine takeD (i := 11) (oi := _) (v := ?_) (some 21) rfl rfl (by kernel_rfl) (by kernel_rfl) (by kernel_rfl) (fun _ _ _ h => h) (Or.inl ⟨by rfl, ?_⟩) (by assumption) ?_
            rotate_left
            · intro wS hSw; obtain ⟨q', rfl⟩ := hSw; go_simp; (try rw [if_neg (by omega)]); try with_reducible rfl
            try simp only [Act.put, List.setIfInBounds_toArray, List.set_cons_zero, List.set_cons_succ]
            refine takeD (i := 12) (oi := _) (v := ?_) (some 22) rfl rfl (by kernel_rfl) (by kernel_rfl) (by kernel_rfl) (fun _ _ _ h => h) (Or.inl ⟨by rfl, ?_⟩) (by assumption) ?_
            rotate_left
            · intro wS hSw; obtain ⟨q', rfl⟩ := hSw; go_simp; (try rw [if_neg (by omega)]); try with_reducible rfl
            try simp only [Act.put, List.setIfInBounds_toArray, List.set_cons_zero, List.set_cons_succ]
            refine takeD (i := 13) (oi := _) (v := ?_) (some 23) rfl rfl (by kernel_rfl) (by kernel_rfl) (by kernel_rfl) (fun _ _ _ h => h) (Or.inl ⟨by rfl, ?_⟩) (by assumption) ?_
            rotate_left
            · intro wS hSw; obtain ⟨q', rfl⟩ := hSw; go_simp; (try rw [if_neg (by omega)]); try with_reducible rfl
            try simp only [Act.put, List.setIfInBounds_toArray, List.set_cons_zero, List.set_cons_succ]
            refine takeD (i := 14) (oi := _) (v := ?_) (some 24) rfl rfl (by kernel_rfl) (by kernel_rfl) (by kernel_rfl) (fun _ _ _ h => h) (Or.inl ⟨by rfl, ?_⟩) (by assumption) ?_
            rotate_left
            · intro wS hSw; obtain ⟨q', rfl⟩ := hSw; go_simp; (try rw [if_neg (by omega)]); try with_reducible rfl
            try simp only [Act.put, List.setIfInBounds_toArray, List.set_cons_zero, List.set_cons_succ]
            refine takeD (i := 15) (oi := _) (v := ?_) (some 25) rfl rfl (by kernel_rfl) (by kernel_rfl) (by kernel_rfl) (fun _ _ _ h => h) (Or.inl ⟨by rfl, ?_⟩) (by assumption) ?_
            rotate_left
            · intro wS hSw; obtain ⟨q', rfl⟩ := hSw; go_simp; (try rw [if_neg (by omega)]); try with_reducible rfl
            try simp only [Act.put, List.setIfInBounds_toArray, List.set_cons_zero, List.set_cons_succ]
            refine takeD (i := 16) (oi := _) (v := ?_) (some 26) rfl rfl (by kernel_rfl) (by kernel_rfl) (by kernel_rfl) (fun _ _ _ h => h) (Or.inl ⟨by rfl, ?_⟩) (by assumption) ?_
            rotate_left
            · intro wS hSw; obtain ⟨q', rfl⟩ := hSw; go_simp; (try rw [if_neg (by omega)]); try with_reducible rfl
            try simp only [Act.put, List.setIfInBounds_toArray, List.set_cons_zero, List.set_cons_succ]
            refine takeD (i := 17) (oi := _) (v := ?_) (some 27) rfl rfl (by kernel_rfl) (by kernel_rfl) (by kernel_rfl) (fun _ _ _ h => h) (Or.inl ⟨by rfl, ?_⟩) (by assumption) ?_
            rotate_left
            · intro wS hSw; obtain ⟨q', rfl⟩ := hSw; go_simp; (try rw [if_neg (by omega)]); try with_reducible rfl
            try simp only [Act.put, List.setIfInBounds_toArray, List.set_cons_zero, List.set_cons_succ]
            refine takeD (i := 18) (oi := _) (v := ?_) (some 28) rfl rfl (by kernel_rfl) (by kernel_rfl) (by kernel_rfl) (fun _ _ _ h => h) (Or.inl ⟨by rfl, ?_⟩) (by assumption) ?_
            rotate_left
            · intro wS hSw; obtain ⟨q', rfl⟩ := hSw; go_simp; (try rw [if_neg (by omega)]); try with_reducible rfl
            try simp only [Act.put, List.setIfInBounds_toArray, List.set_cons_zero, List.set_cons_succ]
            refine takeD (i := 19) (oi := _) (v := ?_) (some 29) rfl rfl (by kernel_rfl) (by kernel_rfl) (by kernel_rfl) (fun _ _ _ h => h) (Or.inl ⟨by rfl, ?_⟩) (by assumption) ?_
            rotate_left
            · intro wS hSw; obtain ⟨q', rfl⟩ := hSw; go_simp; (try rw [if_neg (by omega)]); try with_reducible rfl
            try simp only [Act.put, List.setIfInBounds_toArray, List.set_cons_zero, List.set_cons_succ]
            refine takeD (i := 20) (oi := _) (v := ?_) (some 30) rfl rfl (by kernel_rfl) (by kernel_rfl) (by kernel_rfl) (fun _ _ _ h => h) (Or.inl ⟨by rfl, ?_⟩) (by assumption) ?_
            rotate_left
            · intro wS hSw; obtain ⟨q', rfl⟩ := hSw; go_simp; (try rw [if_neg (by omega)]); try with_reducible rfl
            try simp only [Act.put, List.setIfInBounds_toArray, List.set_cons_zero, List.set_cons_succ]
            refine takeD (i := 21) (oi := _) (v := ?_) (some 31) rfl rfl (by kernel_rfl) (by kernel_rfl) (by kernel_rfl) (fun _ _ _ h => h) (Or.inl ⟨by rfl, ?_⟩) (by assumption) ?_
            rotate_left
            · intro wS hSw; obtain ⟨q', rfl⟩ := hSw; go_simp; (try rw [if_neg (by omega)]); try with_reducible rfl
            try simp only [Act.put, List.setIfInBounds_toArray, List.set_cons_zero, List.set_cons_succ]
            refine wpAnyH_done (by kernel_rfl) ?_ _
            clear hHeld
            go_wp2
            go_roundg (gk - 1)
            case measure => omega
            case rel => exact ⟨k + 1, by omega, by omega, by go_num, HA, (by first | exact Qt.d _ _ | exact Qt.dd _ _ _ | exact ⟨m + 1, rfl⟩)⟩
    · have HN : Hid (ownOk l = true) := hideP (own_end ha.out (by omega))
      have d1 : ¬ ((k : Int) < (l.length : Int)) := by omega
      clear ha
      go_wp2
      go_ret
      exact ⟨ret_bool HN.out.symm, (by first | exact Qt.d _ _ | exact Qt.dd _ _ _ | exact ⟨m + 1, rfl⟩)⟩
set_option maxRecDepth 100000 in
set_option maxHeartbeats 4000000 in
theorem implOwnOk_any (l : List Int) (a : Option Addr) (c : Nat) (_hl : l.length ≤ maxLen) (w : World) (h : Rd w a (icell l)) :
    Calls Try.prog 130 #[.slice a l.length c] w fun e w' => e = .returned (.bool (ownOk l)) ∧ Qt w w' := by
  have hl63 := _hl
  unfold maxLen at hl63
  go_enter Try.func130, Try.ntmps130
  go_wp2
  go_loopg [7] (l.length + 1) (fun gk i wr => ∃ k : Nat, l.length < gk + k ∧ k ≤ l.length ∧ i = .int .i64 (k : Int) ∧ Hid (ownOk l = ownGo (prevAt l k) (l.drop k)) ∧ Qt w wr)
  case atStart => exact ⟨0, by omega, by omega, rfl, hideP rfl, Qt.refl _⟩
  case round =>
    obtain ⟨k, hgk, hk, rfl, ha, m, rfl⟩ := hrel
    by_cases hlt : k < l.length
    · obtain ⟨x, hx⟩ := some_at (l := l) (k := k) hlt
      obtain ⟨b, o, rfl, hbw, g0⟩ := rdInt h hx
      have k0 : (0 : Int) ≤ (k : Int) := by omega
      have k1 : (k : Int) < (l.length : Int) := by omega
      cases t1 : inB x 0 3
      · have HN : Hid (ownOk l = false) := hideP (own_bad ha.out hx (.inl t1))
        clear hx
        go_wp2_with (go_at_call 85; refine (within_any _ _ _ _).mono ?_; rintro e w' ⟨rfl, rfl⟩)
        go_ret
        exact ⟨ret_bool HN.out.symm, (by first | exact Qt.d _ _ | exact Qt.dd _ _ _ | exact ⟨m + 1, rfl⟩)⟩
      · by_cases hk0 : k = 0
        · have HA := hideP (own_good ha.out hx t1 (by unfold prevAt; rw [if_pos hk0]; rfl))
          have d2 : decide (0 < k) = false := decide_eq_false (by omega)
          clear hx hk0
          go_wp2_with (go_at_call 85; refine (within_any _ _ _ _).mono ?_; rintro e w' ⟨rfl, rfl⟩)
          go_roundg (gk - 1)
          case measure => omega
          case rel => exact ⟨k + 1, by omega, by omega, by go_num, HA, (by first | exact Qt.d _ _ | exact Qt.dd _ _ _ | exact ⟨m + 1, rfl⟩)⟩
        · obtain ⟨y, hy⟩ := some_at (l := l) (k := k - 1) (by omega)
          obtain ⟨b', o', e', hbw', g1⟩ := rdInt h hy
          cases e'
          have hp : prevAt l k = some y := by unfold prevAt; rw [if_neg hk0]; exact hy
          have d2 : decide (0 < k) = true := decide_eq_true (by omega)
          have k5 : (1 : Int) ≤ (k : Int) := by omega
          have k6 : 0 < k := by omega
          have zk : IntKind.i64.wrap ((k : Int) - 1) = (k : Int) - 1 := IntWalk.i64_in _ (by omega)
          have kt : ((k : Int) - 1).toNat = k - 1 := by omega
          have k2 : (0 : Int) ≤ (k : Int) - 1 := by omega
          have k3 : (k : Int) - 1 < (l.length : Int) := by omega
          by_cases hxy : x ≤ y
          · have HN : Hid (ownOk l = false) := hideP (own_bad ha.out hx (.inr (by rw [hp]; exact decide_eq_false (by omega))))
            clear hx hy hp hk0
            go_wp2_with (go_at_call 85; refine (within_any _ _ _ _).mono ?_; rintro e w' ⟨rfl, rfl⟩)
            go_ret
            exact ⟨ret_bool HN.out.symm, (by first | exact Qt.d _ _ | exact Qt.dd _ _ _ | exact ⟨m + 1, rfl⟩)⟩
          · have HA := hideP (own_good ha.out hx t1 (by rw [hp]; exact decide_eq_true (by omega)))
            clear hx hy hp hk0
            go_wp2_with (go_at_call 85; refine (within_any _ _ _ _).mono ?_; rintro e w' ⟨rfl, rfl⟩)
            go_roundg (gk - 1)
            case measure => omega
            case rel => exact ⟨k + 1, by omega, by omega, by go_num, HA, (by first | exact Qt.d _ _ | exact Qt.dd _ _ _ | exact ⟨m + 1, rfl⟩)⟩
    · have HN : Hid (ownOk l = true) := hideP (own_end ha.out (by omega))
      have d1 : ¬ ((k : Int) < (l.length : Int)) := by omega
      clear ha
      go_wp2
      go_ret
      exact ⟨ret_bool HN.out.symm, (by first | exact Qt.d _ _ | exact Qt.dd _ _ _ | exact ⟨m + 1, rfl⟩)⟩
set_option maxRecDepth 100000 in
set_option maxHeartbeats 4000000 in
theorem l4Has_any (l : List Int) (a : Option Addr) (c : Nat) (x : Int) (_hl : l.length ≤ maxLen) (w : World) (h : Rd w a (icell l)) :
    Calls Try.prog 125 #[.slice a l.length c, .int .i64 x] w fun e w' => e = .returned (.bool (hasB l x)) ∧ w = w' := by
  have hl63 := _hl
  unfold maxLen at hl63
  go_enter Try.func125, Try.ntmps125
  go_wp2
  go_loopg [5] (l.length + 1) (fun gk i wr => ∃ k : Nat, l.length < gk + k ∧ k ≤ l.length ∧ i = .int .i64 (k : Int) ∧ Hid (∀ j, j < k → l[j]? ≠ some x) ∧ w = wr)
  case atStart => exact ⟨0, by omega, by omega, rfl, hideP (fun j hj => by omega), rfl⟩
  case round =>
    obtain ⟨k, hgk, hk, rfl, ha, rfl⟩ := hrel
    by_cases hlt : k < l.length
    · obtain ⟨y, hy⟩ := some_at (l := l) (k := k) hlt
      obtain ⟨b, o, rfl, hbw, g0⟩ := rdInt h hy
      have k0 : (0 : Int) ≤ (k : Int) := by omega
      have k1 : (k : Int) < (l.length : Int) := by omega
      by_cases hxy : x = y
      · subst hxy
        have HY := hideP hy
        clear hy ha
        go_wp2
        go_ret
        exact ⟨ret_bool (is_has HY.out).symm, rfl⟩
      · have HA : Hid (∀ j, j < k + 1 → l[j]? ≠ some x) := hideP (fun j hj e => by
          by_cases ej : j = k
          · subst ej; rw [hy] at e; cases e; exact hxy rfl
          · exact ha.out j (by omega) e)
        have d2 : ¬ (y = x) := fun e => hxy e.symm
        clear hy ha
        go_wp2
        go_roundg (gk - 1)
        case measure => omega
        case rel => exact ⟨k + 1, by omega, by omega, by go_num, HA, rfl⟩
    · have HN := hideP (not_has ha.out (by omega))
      have d1 : ¬ ((k : Int) < (l.length : Int)) := by omega
      clear ha
      go_wp2
      go_ret
      exact ⟨ret_bool HN.out.symm, rfl⟩
set_option maxRecDepth 100000 in
set_option maxHeartbeats 4000000 in
theorem index_any (l : List Int) (a : Option Addr) (c : Nat) (x : Int) (_hl : l.length ≤ maxLen) (w : World) (h : Rd w a (icell l)) :
    Calls Try.prog 166 #[.slice a l.length c, .int .i64 x] w fun e w' => ∃ i : Int, e = .returned (.int .i64 i) ∧ hasB l x = decide (0 ≤ i) ∧ w = w' := by
  have hl63 := _hl
  unfold maxLen at hl63
  go_enter Try.func166, Try.ntmps166
  go_wp2
  go_loopg [8] (l.length + 1) (fun gk i wr => ∃ k : Nat, l.length < gk + k ∧ k ≤ l.length ∧ i = .int .i64 (k : Int) ∧ Hid (∀ j, j < k → l[j]? ≠ some x) ∧ w = wr)
  case atStart => exact ⟨0, by omega, by omega, rfl, hideP (fun j hj => by omega), rfl⟩
  case round =>
    obtain ⟨k, hgk, hk, rfl, ha, rfl⟩ := hrel
    by_cases hlt : k < l.length
    · obtain ⟨y, hy⟩ := some_at (l := l) (k := k) hlt
      obtain ⟨b, o, rfl, hbw, g0⟩ := rdInt h hy
      have k0 : (0 : Int) ≤ (k : Int) := by omega
      have k1 : (k : Int) < (l.length : Int) := by omega
      by_cases hxy : x = y
      · subst hxy
        have HY := hideP hy
        clear hy ha
        go_wp2
        go_ret
        exact ⟨_, rfl, by rw [is_has HY.out, decide_eq_true (by omega)], rfl⟩
      · have HA : Hid (∀ j, j < k + 1 → l[j]? ≠ some x) := hideP (fun j hj e => by
          by_cases ej : j = k
          · subst ej; rw [hy] at e; cases e; exact hxy rfl
          · exact ha.out j (by omega) e)
        have d2 : ¬ (y = x) := fun e => hxy e.symm
        clear hy ha
        go_wp2
        go_roundg (gk - 1)
        case measure => omega
        case rel => exact ⟨k + 1, by omega, by omega, by go_num, HA, rfl⟩
    · have HN := hideP (not_has ha.out (by omega))
      have d1 : ¬ ((k : Int) < (l.length : Int)) := by omega
      clear ha
      go_wp2
      go_ret
      exact ⟨_, rfl, by rw [HN.out, decide_eq_false (by omega)], rfl⟩
set_option maxRecDepth 100000 in
set_option maxHeartbeats 4000000 in
theorem contains_any (l : List Int) (a : Option Addr) (c : Nat) (x : Int) (_hl : l.length ≤ maxLen) (w : World) (h : Rd w a (icell l)) :
    Calls Try.prog 132 #[.slice a l.length c, .int .i64 x] w fun e w' => e = .returned (.bool (hasB l x)) ∧ w = w' := by
  go_enter Try.func132, Try.ntmps132
  go_wp2_with fail
  refine (index_any l a c x _hl _ h).mono ?_
  rintro e w' ⟨i, rfl, hi, rfl⟩
  have HI := hideP hi
  clear hi
  by_cases h0 : 0 ≤ i
  · go_wp2
    go_ret
    exact ⟨ret_bool (by rw [HI.out, decide_eq_true (by omega)]), rfl⟩
  · go_wp2
    go_ret
    exact ⟨ret_bool (by rw [HI.out, decide_eq_false (by omega)]), rfl⟩

end Go.Proofs.Ytnchmenpgmlpdaa
