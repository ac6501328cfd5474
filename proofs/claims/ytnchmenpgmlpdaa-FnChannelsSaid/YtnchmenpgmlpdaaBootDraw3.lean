/- Boots drawn: l3Any. -/
import Derived.Test.YtnchmenpgmlpdaaBootDraw2
import Derived.Test.YtnchmenpgmlpdaaKeep
import Derived.Deep.DeepCutAuto
import Derived.Deep.LoopGhost
import Derived.Deep.RegionHeld3
import Derived.Deep.RegionLaw
namespace Go.Proofs.Ytnchmenpgmlpdaa
open Go.RowKit

theorem slice_own_ne {g k c X : Nat} (h : g ≠ X) : ∀ q, (Value.slice (some ⟨g, 0, none⟩) k c).ownBlock = some q → q ≠ X := by
  intro q e
  obtain rfl : g = q := by simpa [Value.ownBlock] using e
  exact h
/-- Where l3Any stands between its draws: the result's cell, the label's cell, the label's levels. -/
structure L3S (W : World) (cb : Nat) (w : World) (AB g c : Nat) (w' : World) : Prop where
  r : Blk w' w.heap.size 41 [.slice none 0 0]
  a : Blk w' AB 41 [.slice (some ⟨g, 0, none⟩) 4 c]
  o : ∃ ls : List Int, ls.length = 4 ∧ w'.ownsRow (w.heap.size + 1) 3 1 (.slice (some ⟨g, 0, none⟩) 4 c) 4 (icell ls)
  d : Drew W cb w w'
  z : W.heap.size ≤ w.heap.size ∧ w.heap.size < AB ∧ w.heap.size < g ∧ g ≠ AB
section
variable {W w w' w'' : World} {cb AB g c : Nat}
theorem L3S.cell (h : L3S W cb w AB g c w') : w'.cell? ⟨AB, 0, none⟩ = some (.slice (some ⟨g, 0, none⟩) 4 c) := (h.a.cell 0).trans rfl
theorem L3S.drew (h : L3S W cb w AB g c w') (hd : Drew W cb w' w'') : L3S W cb w AB g c w'' := by
  obtain ⟨ls, hl, ho⟩ := h.o
  have hz := h.z
  exact ⟨hd.blk h.r hz.1, hd.blk h.a (by omega), ⟨ls, hl, hd.owns ho (by omega)⟩, h.d.trans hd, hz⟩
theorem L3S.below (h : L3S W cb w AB g c w') (hb : Below w'.heap.size w' w'') : L3S W cb w AB g c w'' := by
  obtain ⟨ls, hl, ho⟩ := h.o
  exact ⟨h.r.below hb, h.a.below hb, ⟨ls, hl, owns_below ho (Nat.le_refl _) hb⟩, h.d.below hb, h.z⟩
theorem L3S.undrew (h : L3S W cb w AB g c w'.drew) : L3S W cb w AB g c w' := by
  obtain ⟨ls, hl, ho⟩ := h.o
  exact ⟨h.r, h.a, ⟨ls, hl, ho⟩, ⟨h.d.1, ⟨h.d.2.os, h.d.2.tape, h.d.2.output, h.d.2.size, h.d.2.block⟩⟩, h.z⟩
theorem L3S.dr (h : L3S W cb w AB g c w') : L3S W cb w AB g c w'.drew := h.below (Below.refl _ _).drew
theorem L3S.alloc (h : L3S W cb w AB g c w') (o : Obj) : L3S W cb w AB g c (w'.alloc o) := h.below (below_a1 _ _)
theorem L3S.store (h : L3S W cb w AB g c w') (k : Nat) (x : Int) : L3S W cb w AB g c (w'.setCell ⟨g, k, none⟩ (.int .i64 x)) := by
  obtain ⟨ls, hl, ho⟩ := h.o
  have hz := h.z
  refine ⟨h.r.other k _ (by omega), h.a.other k _ (by omega), ⟨ls.set k x, by rw [List.length_set]; exact hl, ?_⟩, h.d.set (g := g) hz.1 (by omega), hz⟩
  have := (ho.stored k (.int .i64 x)).1
  rwa [show icell (ls.set k x) = (icell ls).set k (.int .i64 x) by simp [icell, List.map_set]]
theorem L3S.elem (h : L3S W cb w AB g c w') {k : Nat} (hk : k < 4) : (∃ u, w'.cell? ⟨g, k, none⟩ = some u) ∧ w'.frozen? ⟨g, k, none⟩ = false := by
  obtain ⟨ls, hl, ho⟩ := h.o
  exact owns_at ho (by omega)
end
theorem lit2 {w : World} {X : Nat} {T : TypeId} {a b : Int} (h : Blk w X T [.int .i64 a, .int .i64 b]) : ∀ i, i < 2 → w.cell? ⟨X, i, none⟩ = some (.int .i64 ([a, b].getD i 0)) := by
  intro i hi
  rw [h.cell]
  obtain rfl | rfl : i = 0 ∨ i = 1 := by omega
  · rfl
  · rfl
/-- What l3Any hands back. -/
def LabAny (W : World) (cb : Nat) (w : World) (e : Ending) (w' : World) : Prop :=
  ∃ (p : Option Addr) (n c : Nat) (ls : List Int), e = .returned (.agg #[.slice p n c]) ∧ n = ls.length ∧ n ≤ 5 ∧ w'.ownsRow (w.heap.size + 1) 3 1 (.slice p n c) n (icell ls) ∧ Drew W cb w w'
theorem owns_ne_lab {w : World} {base n X : Nat} {v : Value} {xs cs : List Value} (ho : w.ownsRow base 3 1 v n xs) (hB : Blk w X 41 cs) : v.ownBlock ≠ some X := by
  intro hq
  obtain ⟨_, h2⟩ := ho
  rcases h2 with ⟨rfl, _⟩ | ⟨b, cap, cur, rfl, _, hg, _⟩
  · cases hq
  · obtain rfl : b = X := by simpa [Value.ownBlock] using hq
    unfold Blk at hB
    have h9 := Option.some.inj (hB.symm.trans hg)
    injection h9 with _ h10 _
    exact absurd h10 (by decide)
set_option maxRecDepth 100000 in
set_option maxHeartbeats 4000000 in
theorem l3Any_any {W w : World} {cb : Nat} (h : DE W cb w) : Calls Try.prog 138 #[.pointer (some ⟨cb, 0, none⟩)] w (LabAny W cb w) := by
  obtain ⟨i0, hi, hz0, hz1, hz2⟩ := info_parts Try.infoIntB
  have hW := h.lt.2
  have HD := hideP ((Drew.refl h).alloc (.cells #[.slice none 0 0] 41))
  have HR := hideP (Blk.new w #[.slice none 0 0] 41)
  have hza : (w.alloc (.cells #[.slice none 0 0] 41)).heap.size = w.heap.size + 1 := by simp
  clear h
  go_enter Try.func138, Try.ntmps138
  go_wp2_with fail
  refine (l3Label_any HD.out.1).mono ?_
  rintro e w1 ⟨p, c, ls, rfl, hls, ho, hd⟩
  rw [hza] at ho
  have HO0 := hideP ho
  have HL := hideP hls
  obtain ⟨g, hg0, hg1, rfl⟩ : ∃ g, w.heap.size < g ∧ g < w1.heap.size ∧ p = some ⟨g, 0, none⟩ := by
    obtain ⟨_, h2⟩ := ho
    rcases h2 with ⟨_, hn⟩ | ⟨g, cap, cur, e, hb, hg, _⟩
    · omega
    · cases e
      exact ⟨g, by omega, (Array.getElem?_eq_some_iff.1 hg).1, rfl⟩
  have HR := hideP (hd.blk HR.out hW)
  have HD := hideP (HD.out.trans hd)
  have hc4 : 4 ≤ c := by obtain ⟨a', c', e, h'⟩ := owns_slice ho; cases e; exact h'
  have hw1 := HD.out.2.size
  clear ho hls hd
  have H2 : Hid (L3S W cb w w1.heap.size g c (w1.alloc (.cells #[.slice (some ⟨g, 0, none⟩) 4 c] 41))) := hideP ⟨HR.out.alloc _, Blk.new w1 #[.slice (some ⟨g, 0, none⟩) 4 c] 41, ⟨ls, HL.out, HO0.out.alloc _⟩, HD.out.alloc _, hW, by omega, hg0, by omega⟩
  clear HR HD HO0 HL
  go_upto_region 2 with fail
  obtain ⟨w2, hw2⟩ : ∃ w2, w2 = w1.alloc (.cells #[.slice (some ⟨g, 0, none⟩) 4 c] 41) := ⟨_, rfl⟩
  rw [← hw2] at H2 ⊢
  clear hw2
  obtain ⟨AB, hAB⟩ : ∃ AB, AB = w1.heap.size := ⟨_, rfl⟩
  rw [← hAB] at H2 ⊢
  clear hAB
  go_wp2_with fail
  refine (de_below 14 (by omega) (by omega) H2.out.d.1).mono ?_
  rintro e w3 ⟨y, rfl, y0, y1, hd⟩
  have H3 : Hid (L3S W cb w AB g c w3) := hideP (H2.out.drew hd)
  clear hd H2
  have ca : w3.cell? ⟨AB, 0, none⟩ = some (.slice (some ⟨g, 0, none⟩) 4 c) := H3.out.cell
  have ra : w3.frozen? ⟨AB, 0, none⟩ = false := H3.out.a.frozen 0
  obtain rfl | rfl | rfl | hy : y = 0 ∨ y = 1 ∨ y = 2 ∨ 3 ≤ y := by omega
  · go_wp2
    go_region_law (go_simp; go_at_call 86; refine (de_below 4 (by omega) (by omega) (show DE W cb w3.drew from H3.out.d.1)).mono ?_; rintro e w4 ⟨kk, rfl, kk0, kk1, hd⟩; replace hd := Drew.undrew hd; obtain ⟨k, rfl⟩ := Int.eq_ofNat_of_zero_le kk0; have H4 := hideP (H3.out.drew hd); have cb4 : w4.cell? ⟨AB, 0, none⟩ = some (.slice (some ⟨g, 0, none⟩) 4 c) := H4.out.cell; have rb4 : w4.frozen? ⟨AB, 0, none⟩ = false := H4.out.a.frozen 0; have hkc : k ≤ c := (by omega); clear hd; go_wp2_with fail)
    all_goals
      obtain ⟨ls9, hl9, ho9⟩ := H4.out.o
      have hz9 := H4.out.z
      have hk4 : k ≤ 4 := by omega
      have ht9 := owns_take ho9 hk4
      have hnA : ∀ q, (Value.slice (some ⟨g, 0, none⟩) k c).ownBlock = some q → q ≠ AB := slice_own_ne (by omega)
      have hnG : ∀ q, (Value.slice (some ⟨g, 0, none⟩) k c).ownBlock = some q → q ≠ w.heap.size := slice_own_ne (by omega)
      have H4a := H4.out.a.set 0 (.slice (some ⟨g, 0, none⟩) k c)
      have H4r := H4.out.r.other 0 (.slice (some ⟨g, 0, none⟩) k c) (show w.heap.size ≠ AB by omega)
      have r0 : World.cell? _ ⟨w.heap.size, 0, none⟩ = some (.slice none 0 0) := (H4r.cell 0).trans rfl
      have f0 : World.frozen? _ ⟨w.heap.size, 0, none⟩ = false := H4r.frozen 0
      have c9 : World.cell? _ ⟨AB, 0, none⟩ = some (.slice (some ⟨g, 0, none⟩) k c) := (H4a.cell 0).trans rfl
      have D9 := hideP ((H4.out.d.set (g := AB) (i := 0) (v := .slice (some ⟨g, 0, none⟩) k c) hW (by omega)).set (g := w.heap.size) (i := 0) (v := .slice (some ⟨g, 0, none⟩) k c) hW (Nat.le_refl _))
      have O9 := hideP (owns_setB (g := w.heap.size) (i := 0) (u := .slice (some ⟨g, 0, none⟩) k c) (owns_setB (g := AB) (i := 0) (u := .slice (some ⟨g, 0, none⟩) k c) ht9 hnA) hnG)
      have E9 : Hid (List.take (k * 1) (icell ls9) = icell (ls9.take k)) := hideP (by rw [Nat.mul_one]; simp [icell, List.map_take])
      have L9 : Hid (k = (ls9.take k).length) := hideP (by rw [List.length_take]; omega)
      rw [E9.out] at O9
      clear H4 H3 H4a H4r ho9 ht9 hnA hnG cb4 ca hl9
      go_wp2
      exact bodyPost_ret (v := .agg #[.slice (some ⟨g, 0, none⟩) k c]) (by first | (simp [results, Try.results138, go_sem, r0]; done) | simp [results, Try.results138, go_sem, r0, f0]) rfl ⟨_, k, c, ls9.take k, rfl, L9.out, by omega, O9.out, D9.out⟩
  · go_wp2
    refine wp_region_held_drew (S := L3S W cb w AB g c) (by kernel_rfl) (H3.out.dr) (fun hHeld => ?_)
    refine takeD (i := 0) (oi := _) (v := ?_) (some 18) rfl rfl (by kernel_rfl) (by kernel_rfl) (by kernel_rfl) (fun _ _ _ h => h) (Or.inl ⟨by rfl, ?_⟩) (by assumption) ?_
    rotate_left
    · intro wS hSw; (try dsimp only at hSw); go_simp; (try rw [if_neg (by omega)]); try with_reducible rfl
    try simp only [Act.put, List.setIfInBounds_toArray, List.set_cons_zero, List.set_cons_succ]
    refine takeD (i := 2) (oi := _) (v := ?_) (some 20) rfl rfl (by kernel_rfl) (by kernel_rfl) (by kernel_rfl) (fun _ _ _ h => h) (Or.inl ⟨by rfl, ?_⟩) (by assumption) ?_
    rotate_left
    · intro wS hSw; (try dsimp only at hSw); go_simp; (try rw [if_neg (by omega)]); try with_reducible rfl
    try simp only [Act.put, List.setIfInBounds_toArray, List.set_cons_zero, List.set_cons_succ]
    refine takeD (i := 4) (oi := _) (v := ?_) (some 22) rfl rfl (by kernel_rfl) (by kernel_rfl) (by kernel_rfl) (fun _ _ _ h => h) (Or.inl ⟨by rfl, ?_⟩) (by assumption) ?_
    rotate_left
    · intro wS hSw; (try dsimp only at hSw); go_simp; (try rw [if_neg (by omega)]); try with_reducible rfl
    try simp only [Act.put, List.setIfInBounds_toArray, List.set_cons_zero, List.set_cons_succ]
    refine takeD (i := 1) (oi := _) (v := ?_) (some 19) rfl rfl (by kernel_rfl) (by kernel_rfl) (by kernel_rfl) (fun _ _ _ h => h) (Or.inl ⟨by rfl, ?_⟩) (by assumption) ?_
    rotate_left
    · intro wS hSw; have z0 := hSw.cell; go_simp; (try rw [if_neg (by omega)]); try with_reducible rfl
    try simp only [Act.put, List.setIfInBounds_toArray, List.set_cons_zero, List.set_cons_succ]
    refine wpAnyH_ready (rs := [3, 5]) (by kernel_rfl) (by simp) ?_
    refine AllReadyH.cons (o := _) rfl (fun K hK => ?_) (AllReadyH.cons (o := _) rfl (fun K hK => ?_) (AllReadyH.nil))
    · go_simp
      refine (de_below 4 (by omega) (by omega) hHeld.d.1).mono ?_
      rintro e w5 ⟨kk, rfl, kk0, kk1, hd⟩
      obtain ⟨k, rfl⟩ := Int.eq_ofNat_of_zero_le kk0
      have hk4 : k < 4 := by omega
      have hk5 : (k : Int) < 4 := by omega
      go_wp2_with fail
      refine hK.out _ _ (hHeld.drew hd) (fun hNext => ?_)
      clear hK K hHeld
      revert hNext
      intro hHeld
      try simp only [Act.put, List.setIfInBounds_toArray, List.set_cons_zero, List.set_cons_succ]
      refine wpAnyH_ready (rs := [5]) (by kernel_rfl) (by simp) ?_
      refine AllReadyH.cons (o := _) rfl (fun K hK => ?_) (AllReadyH.nil)
      · go_simp
        have hHeld0 := hHeld
        refine hK.out _ _ (hHeld.alloc _) (fun hNext => ?_)
        clear hK K hHeld
        revert hNext
        intro hHeld
        have HLit := Blk.new (w5) #[.int .i64 (-1), .int .i64 4] 3
        try simp only [Act.put, List.setIfInBounds_toArray, List.set_cons_zero, List.set_cons_succ]
        refine wpAnyH_ready (rs := [6]) (by kernel_rfl) (by simp) ?_
        refine AllReadyH.cons (o := _) rfl (fun K hK => ?_) (AllReadyH.nil)
        · go_simp
          refine (de_pick [-1, 4] 2 rfl (by decide) (by decide) hHeld.d.1 (lit2 HLit) (by have := hHeld.d.1.lt.1; have := hHeld0.d.2.size; have := hHeld0.z.1; omega)).mono ?_
          rintro e w6 ⟨z, _, rfl, hd6⟩
          go_wp2_with fail
          refine hK.out _ _ (hHeld.drew hd6) (fun hNext => ?_)
          clear hK K hHeld
          revert hNext
          intro hHeld
          obtain ⟨⟨u9, e9⟩, f9⟩ := hHeld.elem hk4
          try simp only [Act.put, List.setIfInBounds_toArray, List.set_cons_zero, List.set_cons_succ]
          refine takeD (i := 7) (oi := _) (v := ?_) (some 25) rfl rfl (by kernel_rfl) (by kernel_rfl) (by kernel_rfl) (fun _ _ _ h => h) (Or.inl ⟨by rfl, ?_⟩) (by assumption) ?_
          rotate_left
          · intro wS hSw; (try dsimp only at hSw); go_simp; (try rw [if_neg (by omega)]); try with_reducible rfl
          try simp only [Act.put, List.setIfInBounds_toArray, List.set_cons_zero, List.set_cons_succ]
          refine wpAnyH_ready (rs := [8]) (by kernel_rfl) (by simp) ?_
          refine AllReadyH.cons (o := _) rfl (fun K hK => ?_) (AllReadyH.nil)
          · go_simp
            refine hK.out _ _ (hHeld.store k z) (fun hNext => ?_)
            clear hK K hHeld
            revert hNext
            intro hHeld
            try simp only [Act.put, List.setIfInBounds_toArray, List.set_cons_zero, List.set_cons_succ]
            refine wpAnyH_done (by kernel_rfl) ?_ _
            obtain ⟨ls9, hl9, ho9⟩ := hHeld.o
            have hne9 : ∀ q, (Value.slice (some ⟨g, 0, none⟩) 4 c).ownBlock = some q → q ≠ w.heap.size := fun q e => by have := (ho9.lt q e).1; omega
            have r0 : World.cell? _ ⟨w.heap.size, 0, none⟩ = some (.slice none 0 0) := (hHeld.r.cell 0).trans rfl
            have f0 : World.frozen? _ ⟨w.heap.size, 0, none⟩ = false := hHeld.r.frozen 0
            have ca : World.cell? _ ⟨AB, 0, none⟩ = some (.slice (some ⟨g, 0, none⟩) 4 c) := hHeld.cell
            have D9 := hideP (hHeld.d.set (g := w.heap.size) (i := 0) (v := .slice (some ⟨g, 0, none⟩) 4 c) hW (Nat.le_refl _))
            have O9 := hideP (owns_setB (g := w.heap.size) (i := 0) (u := .slice (some ⟨g, 0, none⟩) 4 c) ho9 hne9)
            have L9 := hideP hl9
            clear hHeld ho9 hl9 hne9
            go_wp2
            exact bodyPost_ret (v := .agg #[.slice (some ⟨g, 0, none⟩) 4 c]) (by first | (simp [results, Try.results138, go_sem, r0]; done) | simp [results, Try.results138, go_sem, r0, f0]) rfl ⟨_, 4, c, ls9, rfl, L9.out.symm, by omega, O9.out, D9.out⟩
    · go_simp
      have hHeld0 := hHeld
      refine hK.out _ _ (hHeld.alloc _) (fun hNext => ?_)
      clear hK K hHeld
      revert hNext
      intro hHeld
      have HLit := Blk.new (w3.drew) #[.int .i64 (-1), .int .i64 4] 3
      try simp only [Act.put, List.setIfInBounds_toArray, List.set_cons_zero, List.set_cons_succ]
      refine wpAnyH_ready (rs := [3]) (by kernel_rfl) (by simp) ?_
      refine AllReadyH.cons (o := _) rfl (fun K hK => ?_) (AllReadyH.nil)
      · go_simp
        refine (de_below 4 (by omega) (by omega) hHeld.d.1).mono ?_
        rintro e w5 ⟨kk, rfl, kk0, kk1, hd⟩
        obtain ⟨k, rfl⟩ := Int.eq_ofNat_of_zero_le kk0
        have hk4 : k < 4 := by omega
        have hk5 : (k : Int) < 4 := by omega
        have HLit := hd.blk HLit (by have := hHeld0.d.2.size; have := hHeld0.z.1; omega)
        go_wp2_with fail
        refine hK.out _ _ (hHeld.drew hd) (fun hNext => ?_)
        clear hK K hHeld
        revert hNext
        intro hHeld
        try simp only [Act.put, List.setIfInBounds_toArray, List.set_cons_zero, List.set_cons_succ]
        refine wpAnyH_ready (rs := [6]) (by kernel_rfl) (by simp) ?_
        refine AllReadyH.cons (o := _) rfl (fun K hK => ?_) (AllReadyH.nil)
        · go_simp
          refine (de_pick [-1, 4] 2 rfl (by decide) (by decide) hHeld.d.1 (lit2 HLit) (by have := hHeld.d.1.lt.1; have := hHeld0.d.2.size; have := hHeld0.z.1; omega)).mono ?_
          rintro e w6 ⟨z, _, rfl, hd6⟩
          go_wp2_with fail
          refine hK.out _ _ (hHeld.drew hd6) (fun hNext => ?_)
          clear hK K hHeld
          revert hNext
          intro hHeld
          obtain ⟨⟨u9, e9⟩, f9⟩ := hHeld.elem hk4
          try simp only [Act.put, List.setIfInBounds_toArray, List.set_cons_zero, List.set_cons_succ]
          refine takeD (i := 7) (oi := _) (v := ?_) (some 25) rfl rfl (by kernel_rfl) (by kernel_rfl) (by kernel_rfl) (fun _ _ _ h => h) (Or.inl ⟨by rfl, ?_⟩) (by assumption) ?_
          rotate_left
          · intro wS hSw; (try dsimp only at hSw); go_simp; (try rw [if_neg (by omega)]); try with_reducible rfl
          try simp only [Act.put, List.setIfInBounds_toArray, List.set_cons_zero, List.set_cons_succ]
          refine wpAnyH_ready (rs := [8]) (by kernel_rfl) (by simp) ?_
          refine AllReadyH.cons (o := _) rfl (fun K hK => ?_) (AllReadyH.nil)
          · go_simp
            refine hK.out _ _ (hHeld.store k z) (fun hNext => ?_)
            clear hK K hHeld
            revert hNext
            intro hHeld
            try simp only [Act.put, List.setIfInBounds_toArray, List.set_cons_zero, List.set_cons_succ]
            refine wpAnyH_done (by kernel_rfl) ?_ _
            obtain ⟨ls9, hl9, ho9⟩ := hHeld.o
            have hne9 : ∀ q, (Value.slice (some ⟨g, 0, none⟩) 4 c).ownBlock = some q → q ≠ w.heap.size := fun q e => by have := (ho9.lt q e).1; omega
            have r0 : World.cell? _ ⟨w.heap.size, 0, none⟩ = some (.slice none 0 0) := (hHeld.r.cell 0).trans rfl
            have f0 : World.frozen? _ ⟨w.heap.size, 0, none⟩ = false := hHeld.r.frozen 0
            have ca : World.cell? _ ⟨AB, 0, none⟩ = some (.slice (some ⟨g, 0, none⟩) 4 c) := hHeld.cell
            have D9 := hideP (hHeld.d.set (g := w.heap.size) (i := 0) (v := .slice (some ⟨g, 0, none⟩) 4 c) hW (Nat.le_refl _))
            have O9 := hideP (owns_setB (g := w.heap.size) (i := 0) (u := .slice (some ⟨g, 0, none⟩) 4 c) ho9 hne9)
            have L9 := hideP hl9
            clear hHeld ho9 hl9 hne9
            go_wp2
            exact bodyPost_ret (v := .agg #[.slice (some ⟨g, 0, none⟩) 4 c]) (by first | (simp [results, Try.results138, go_sem, r0]; done) | simp [results, Try.results138, go_sem, r0, f0]) rfl ⟨_, 4, c, ls9, rfl, L9.out.symm, by omega, O9.out, D9.out⟩
  · obtain ⟨ls9, hl9, ho9⟩ := H3.out.o
    have hz9 := H3.out.z
    have HO9 := hideP ho9
    have HL9 := hideP hl9
    have hz3 : w.heap.size + 1 ≤ w3.heap.size := by have := H3.out.a.lt; omega
    clear ho9 hl9
    go_wp2_with (at_builtin; refine wpList_append_rd _ rfl _ _ 39 rfl (w.heap.size + 1) 3 i0 (.int .i64 0) 1 8 Try.underlying39 hi hz0 hz1 hz2 rfl (by decide) _ _ _ rfl (World.ownsRow.alloc HO9.out _) _ 1 1 [.int .i64 0] rfl rfl (rd_lit rfl) ?c1 ?c2 ?c3 ?c4 ?_)
    case c1 => simp [Value.oneCell']
    case c2 => unfold maxLen; omega
    case c3 => omega
    case c4 => simp; omega
    intro v9 w9 ho9 hg9
    obtain ⟨p9, c9, rfl, _⟩ := owns_slice ho9
    have ht : 4 + 1 = 5 := rfl
    have HOw := hideP ho9
    have hs9 : ∀ q, (Value.slice (some ⟨g, 0, none⟩) 4 c).ownBlock = some q → q = g := fun q e => by cases e; rfl
    have K9 := KeptP.of_grown hg9
    have HA9 := hideP (K9.blk (H3.out.a.alloc (.cells #[.int .i64 0] 3)) (fun e => by have := hs9 _ e; omega))
    have HR9 := hideP (K9.blk (H3.out.r.alloc (.cells #[.int .i64 0] 3)) (fun e => by have := hs9 _ e; omega))
    have HD9 := hideP ((H3.out.d.alloc (.cells #[.int .i64 0] 3)).own hg9 hW (fun q e => by have := hs9 q e; omega))
    have OQ : ∀ q, (Value.slice p9 5 c9).ownBlock = some q → w.heap.size + 1 ≤ q := fun q e => (ho9.lt q e).1
    have hapart : ∀ q, (Value.slice p9 5 c9).ownBlock = some q → q ≠ AB := fun q e e2 => by
      have h8 := owns_ne_lab ho9 HA9.out
      exact h8 (by rw [← e2]; exact e)
    clear ho9 hg9 K9 H3 ca
    have xa : w9.cell? ⟨AB, 0, none⟩ = some (.slice (some ⟨g, 0, none⟩) 4 c) := (HA9.out.cell 0).trans rfl
    have fa : w9.frozen? ⟨AB, 0, none⟩ = false := HA9.out.frozen 0
    have HAs := HA9.out.set 0 (.slice p9 5 c9)
    have HRs := HR9.out.other 0 (.slice p9 5 c9) (show w.heap.size ≠ AB by omega)
    have r0 : World.cell? _ ⟨w.heap.size, 0, none⟩ = some (.slice none 0 0) := (HRs.cell 0).trans rfl
    have f0 : World.frozen? _ ⟨w.heap.size, 0, none⟩ = false := HRs.frozen 0
    have x0 : World.cell? _ ⟨AB, 0, none⟩ = some (.slice p9 5 c9) := (HAs.cell 0).trans rfl
    have D9 := hideP ((HD9.out.set (g := AB) (i := 0) (v := .slice p9 5 c9) hW (by omega)).set (g := w.heap.size) (i := 0) (v := .slice p9 5 c9) hW (Nat.le_refl _))
    have O9 := hideP (owns_setB (g := w.heap.size) (i := 0) (u := .slice p9 5 c9) (owns_setB (g := AB) (i := 0) (u := .slice p9 5 c9) HOw.out hapart) (fun q e => by have := OQ q e; omega))
    have E9 : Hid (icell ls9 ++ [.int .i64 0] = icell (ls9 ++ [0])) := hideP (by simp [icell])
    have L9 : Hid (5 = (ls9 ++ [0]).length) := hideP (by rw [List.length_append, HL9.out]; rfl)
    rw [E9.out] at O9
    clear HAs HRs HA9 HR9 HD9
    go_wp2
    exact bodyPost_ret (v := .agg #[.slice p9 5 c9]) (by first | (simp [results, Try.results138, go_sem, r0]; done) | simp [results, Try.results138, go_sem, r0, f0]) rfl ⟨_, 5, c9, ls9 ++ [0], rfl, L9.out, by omega, O9.out, D9.out⟩
  · have d0 : (y == 0) = false := by simp; omega
    have d1 : (y == 1) = false := by simp; omega
    have d2 : (y == 2) = false := by simp; omega
    have hHeld := H3.out
    clear H3 ca ra
    obtain ⟨ls9, hl9, ho9⟩ := hHeld.o
    have hne9 : ∀ q, (Value.slice (some ⟨g, 0, none⟩) 4 c).ownBlock = some q → q ≠ w.heap.size := fun q e => by have := (ho9.lt q e).1; omega
    have r0 : World.cell? _ ⟨w.heap.size, 0, none⟩ = some (.slice none 0 0) := (hHeld.r.cell 0).trans rfl
    have f0 : World.frozen? _ ⟨w.heap.size, 0, none⟩ = false := hHeld.r.frozen 0
    have ca : World.cell? _ ⟨AB, 0, none⟩ = some (.slice (some ⟨g, 0, none⟩) 4 c) := hHeld.cell
    have D9 := hideP (hHeld.d.set (g := w.heap.size) (i := 0) (v := .slice (some ⟨g, 0, none⟩) 4 c) hW (Nat.le_refl _))
    have O9 := hideP (owns_setB (g := w.heap.size) (i := 0) (u := .slice (some ⟨g, 0, none⟩) 4 c) ho9 hne9)
    have L9 := hideP hl9
    clear hHeld ho9 hl9 hne9
    go_wp2
    exact bodyPost_ret (v := .agg #[.slice (some ⟨g, 0, none⟩) 4 c]) (by first | (simp [results, Try.results138, go_sem, r0]; done) | simp [results, Try.results138, go_sem, r0, f0]) rfl ⟨_, 4, c, ls9, rfl, L9.out.symm, by omega, O9.out, D9.out⟩

end Go.Proofs.Ytnchmenpgmlpdaa
