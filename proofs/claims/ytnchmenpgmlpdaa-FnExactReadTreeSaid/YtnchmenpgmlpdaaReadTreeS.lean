/- The walk of the reference's ReadTree. -/
import Derived.Test.YtnchmenpgmlpdaaVarsW
import Derived.Test.YtnchmenpgmlpdaaTreeRead
import Derived.Test.YtnchmenpgmlpdaaShowTreeS
import Derived.Test.YtnchmenpgmlpdaaReadTreeI
namespace Go.Proofs.Ytnchmenpgmlpdaa
open Go.RowKit

set_option maxRecDepth 100000 in
set_option maxHeartbeats 4000000 in
theorem specReadTree_any (s : ByteArray) (hs : s.size ≤ maxLen) (w : World) :
    Calls Try.prog 35 #[.string s] w (TreeRet w (bl s)) := by
  obtain ⟨i0, hi, hz0, hz1, hz2⟩ := info_parts Try.infoRes
  go_enter Try.func35, Try.ntmps35
  go_wp2_with fail
  refine (l23Vars_any s 0 25 hs (Nat.zero_le _) (by decide) _).mono ?_
  intro e w1 hV
  unfold VarsRet at hV
  rw [List.drop_zero] at hV
  cases hq : seqGo (bl s) 25 with
  | none =>
    rw [hq] at hV
    obtain ⟨v, xs, rfl, ho, hb1⟩ := hV
    have HN : Hid (readTree (bl s) = none) := hideP (by unfold readTree; rw [hq]; rfl)
    have HB := Lib.hid hb1
    clear ho hq hb1
    go_wp2
    go_ret2
    exact TreeRet.no HN.out (owns_lit HB.out.size rfl (by decide) (by simp) rfl) (HB.out.alloc HB.out.size _)
  | some q =>
    obtain ⟨ns, a⟩ := q
    rw [hq] at hV
    obtain ⟨v, rfl, ho, hb1⟩ := hV
    have HRT : Hid (readTree (bl s) = if showTree (buildTree ns 5) = bl s then some (buildTree ns 5) else none) := hideP (by unfold readTree; rw [hq]; rfl)
    obtain ⟨hl25, -, -, hin, -⟩ := seqGo_inv hq
    have HL := Lib.hid hl25
    have HIN := hideP hin
    obtain ⟨va, c, rfl, hc25⟩ := owns_slice ho
    obtain ⟨g, rfl, hg0⟩ := owns_block ho (by decide)
    have hg1 : g < w1.heap.size := (ho.lt g rfl).2
    have HC : Hid (∀ j, j < 25 → w1.cell? ⟨g, j, none⟩ = some (.int .i64 (ns.getD j 0 : Int))) := hideP (fun j hj => by
      rw [ho.cellAt j (by omega)]
      unfold icells
      rw [List.getElem?_map, List.getD_eq_getElem?_getD, List.getElem?_eq_getElem (by omega)]
      rfl)
    have HB := Lib.hid hb1
    clear ho hq hb1 hl25 hin
    go_wp2
    go_loopg [6, 7] 6 (fun gk v iv wr => ∃ (k : Nat), 5 < gk + k ∧ k ≤ 5 ∧ iv = .int .i64 (k : Int) ∧ Hid (Acc w1 122 5 k ((buildTree ns k).flatMap Res.enc) v wr))
    case atStart => exact ⟨0, by omega, by omega, rfl, hideP (Acc.nil (Below.refl _ _) rfl)⟩
    case round =>
      obtain ⟨k, hgk, hk, rfl, hacc⟩ := hrel
      have hbr := hacc.out.2
      by_cases hlt : k < 5
      · have g0 := (hbr.cell (p := ⟨g, 5 * k, none⟩) hg1).trans (HC.out (5 * k) (by omega))
        have g1 := (hbr.cell (p := ⟨g, 5 * k + 1, none⟩) hg1).trans (HC.out (5 * k + 1) (by omega))
        have g2 := (hbr.cell (p := ⟨g, 5 * k + 2, none⟩) hg1).trans (HC.out (5 * k + 2) (by omega))
        have g3 := (hbr.cell (p := ⟨g, 5 * k + 3, none⟩) hg1).trans (HC.out (5 * k + 3) (by omega))
        have g4 := (hbr.cell (p := ⟨g, 5 * k + 4, none⟩) hg1).trans (HC.out (5 * k + 4) (by omega))
        have hn1 : ns.getD (5 * k + 1) 0 ≤ 562949953421311 := by
          rw [List.getD_eq_getElem?_getD, List.getElem?_eq_getElem (by have := HL.out; omega)]
          exact HIN.out _ (List.getElem_mem _)
        have HD : Hid (resOf ns k = ⟨decide (ns.getD (5 * k) 0 = 1), (ns.getD (5 * k + 1) 0 : Int) - 1, ⟨(ns.getD (5 * k + 2) 0 : Int), (ns.getD (5 * k + 3) 0 : Int), (ns.getD (5 * k + 4) 0 : Int)⟩⟩) := hideP rfl
        obtain ⟨m0, e0⟩ : ∃ m, m = ns.getD (5 * k) 0 := ⟨_, rfl⟩
        obtain ⟨m1, e1⟩ : ∃ m, m = ns.getD (5 * k + 1) 0 := ⟨_, rfl⟩
        obtain ⟨m2, e2⟩ : ∃ m, m = ns.getD (5 * k + 2) 0 := ⟨_, rfl⟩
        obtain ⟨m3, e3⟩ : ∃ m, m = ns.getD (5 * k + 3) 0 := ⟨_, rfl⟩
        obtain ⟨m4, e4⟩ : ∃ m, m = ns.getD (5 * k + 4) 0 := ⟨_, rfl⟩
        rw [← e0] at g0 HD
        rw [← e1] at g1 HD hn1
        rw [← e2] at g2 HD
        rw [← e3] at g3 HD
        rw [← e4] at g4 HD
        obtain ⟨b0, hb0⟩ : ∃ b, b = ((m0 : Int) == 1) := ⟨_, rfl⟩
        have HD0 : Hid (decide (m0 = 1) = b0) := hideP (by rw [hb0, Bool.eq_iff_iff]; simp; omega)
        have hb0' := hb0.symm
        clear e0 e1 e2 e3 e4 hb0 hbr
        have hlen : 5 * k + 5 - 5 * k = 5 := by omega
        have hb1r := hacc.out.2
        have zw : IntKind.i64.wrap ((m1 : Int) - 1) = (m1 : Int) - 1 := IntWalk.i64_in _ (by omega)
        go_wp2
        refine wp_region_held_drew (S := fun w' => w'.cell? ⟨g, 5 * k, none⟩ = some (.int .i64 (m0 : Int)) ∧ w'.cell? ⟨g, 5 * k + 1, none⟩ = some (.int .i64 (m1 : Int)) ∧ w'.cell? ⟨g, 5 * k + 2, none⟩ = some (.int .i64 (m2 : Int)) ∧ w'.cell? ⟨g, 5 * k + 3, none⟩ = some (.int .i64 (m3 : Int)) ∧ w'.cell? ⟨g, 5 * k + 4, none⟩ = some (.int .i64 (m4 : Int)) ∧ Below w1.heap.size w1 w') (by kernel_rfl) (⟨g0, g1, g2, g3, g4, hb1r.drew⟩) (fun hHeld => ?_)
        refine takeD (i := 0) (oi := _) (v := ?_) (some 29) rfl rfl (by kernel_rfl) (by kernel_rfl) (by kernel_rfl) (fun _ _ _ h => h) (Or.inl ⟨by rfl, ?_⟩) (by assumption) ?_
        rotate_left
        · intro w hSw; (try dsimp only at hSw); go_simp; (try rw [if_neg (by omega)]); try with_reducible rfl
        try simp only [Act.put, List.setIfInBounds_toArray, List.set_cons_zero, List.set_cons_succ]
        refine takeD (i := 1) (oi := _) (v := ?_) (some 30) rfl rfl (by kernel_rfl) (by kernel_rfl) (by kernel_rfl) (fun _ _ _ h => h) (Or.inl ⟨by rfl, ?_⟩) (by assumption) ?_
        rotate_left
        · intro w hSw; (try dsimp only at hSw); go_simp; (try rw [if_neg (by omega)]); try with_reducible rfl
        try simp only [Act.put, List.setIfInBounds_toArray, List.set_cons_zero, List.set_cons_succ]
        refine takeD (i := 2) (oi := _) (v := ?_) (some 31) rfl rfl (by kernel_rfl) (by kernel_rfl) (by kernel_rfl) (fun _ _ _ h => h) (Or.inl ⟨by rfl, ?_⟩) (by assumption) ?_
        rotate_left
        · intro w hSw; (try dsimp only at hSw); go_simp; (try rw [if_neg (by omega)]); try with_reducible rfl
        try simp only [Act.put, List.setIfInBounds_toArray, List.set_cons_zero, List.set_cons_succ]
        refine takeD (i := 3) (oi := _) (v := ?_) (some 32) rfl rfl (by kernel_rfl) (by kernel_rfl) (by kernel_rfl) (fun _ _ _ h => h) (Or.inl ⟨by rfl, ?_⟩) (by assumption) ?_
        rotate_left
        · intro w hSw; (try dsimp only at hSw); go_simp; (try rw [if_neg (by omega)]); try with_reducible rfl
        try simp only [Act.put, List.setIfInBounds_toArray, List.set_cons_zero, List.set_cons_succ]
        refine takeD (i := 4) (oi := _) (v := ?_) (some 33) rfl rfl (by kernel_rfl) (by kernel_rfl) (by kernel_rfl) (fun _ _ _ h => h) (Or.inl ⟨by rfl, ?_⟩) (by assumption) ?_
        rotate_left
        · intro w hSw; (try dsimp only at hSw); go_simp; (try rw [if_neg (by omega)]); try with_reducible rfl
        try simp only [Act.put, List.setIfInBounds_toArray, List.set_cons_zero, List.set_cons_succ]
        refine takeD (i := 5) (oi := _) (v := ?_) (some 34) rfl rfl (by kernel_rfl) (by kernel_rfl) (by kernel_rfl) (fun _ _ _ h => h) (Or.inl ⟨by rfl, ?_⟩) (by assumption) ?_
        rotate_left
        · intro w hSw; (try dsimp only at hSw); go_simp; (try rw [if_neg (by omega)]); try with_reducible rfl
        try simp only [Act.put, List.setIfInBounds_toArray, List.set_cons_zero, List.set_cons_succ]
        refine takeD (i := 6) (oi := _) (v := ?_) (some 35) rfl rfl (by kernel_rfl) (by kernel_rfl) (by kernel_rfl) (fun _ _ _ h => h) (Or.inl ⟨by rfl, ?_⟩) (by assumption) ?_
        rotate_left
        · intro w hSw; (try dsimp only at hSw); go_simp; (try rw [if_neg (by omega)]); try with_reducible rfl
        try simp only [Act.put, List.setIfInBounds_toArray, List.set_cons_zero, List.set_cons_succ]
        refine takeD (i := 7) (oi := _) (v := ?_) (some 36) rfl rfl (by kernel_rfl) (by kernel_rfl) (by kernel_rfl) (fun _ _ _ h => h) (Or.inl ⟨by rfl, ?_⟩) (by assumption) ?_
        rotate_left
        · intro w hSw; (try dsimp only at hSw); go_simp; (try rw [if_neg (by omega)]); try with_reducible rfl
        try simp only [Act.put, List.setIfInBounds_toArray, List.set_cons_zero, List.set_cons_succ]
        refine takeD (i := 8) (oi := _) (v := ?_) (some 37) rfl rfl (by kernel_rfl) (by kernel_rfl) (by kernel_rfl) (fun _ _ _ h => h) (Or.inl ⟨by rfl, ?_⟩) (by assumption) ?_
        rotate_left
        · intro w hSw; (try dsimp only at hSw); go_simp; (try rw [if_neg (by omega)]); try with_reducible rfl
        try simp only [Act.put, List.setIfInBounds_toArray, List.set_cons_zero, List.set_cons_succ]
        refine takeD (i := 9) (oi := _) (v := ?_) (some 38) rfl rfl (by kernel_rfl) (by kernel_rfl) (by kernel_rfl) (fun _ _ _ h => h) (Or.inl ⟨by rfl, ?_⟩) (by assumption) ?_
        rotate_left
        · intro w hSw; (try dsimp only at hSw); go_simp; (try rw [if_neg (by omega)]); try with_reducible rfl
        try simp only [Act.put, List.setIfInBounds_toArray, List.set_cons_zero, List.set_cons_succ]
        refine takeD (i := 10) (oi := _) (v := ?_) (some 39) rfl rfl (by kernel_rfl) (by kernel_rfl) (by kernel_rfl) (fun _ _ _ h => h) (Or.inl ⟨by rfl, ?_⟩) (by assumption) ?_
        rotate_left
        · intro w hSw; (try dsimp only at hSw); go_simp; (try rw [if_neg (by omega)]); try with_reducible rfl
        try simp only [Act.put, List.setIfInBounds_toArray, List.set_cons_zero, List.set_cons_succ]
        refine takeD (i := 11) (oi := _) (v := ?_) (some 40) rfl rfl (by kernel_rfl) (by kernel_rfl) (by kernel_rfl) (fun _ _ _ h => h) (Or.inl ⟨by rfl, ?_⟩) (by assumption) ?_
        rotate_left
        · intro w hSw; (try dsimp only at hSw); go_simp; (try rw [if_neg (by omega)]); try with_reducible rfl
        try simp only [Act.put, List.setIfInBounds_toArray, List.set_cons_zero, List.set_cons_succ]
        refine takeD (i := 12) (oi := _) (v := ?_) (some 41) rfl rfl (by kernel_rfl) (by kernel_rfl) (by kernel_rfl) (fun _ _ _ h => h) (Or.inl ⟨by rfl, ?_⟩) (by assumption) ?_
        rotate_left
        · intro w hSw; (try dsimp only at hSw); go_simp; (try rw [if_neg (by omega)]); try with_reducible rfl
        try simp only [Act.put, List.setIfInBounds_toArray, List.set_cons_zero, List.set_cons_succ]
        refine takeD (i := 13) (oi := _) (v := ?_) (some 42) rfl rfl (by kernel_rfl) (by kernel_rfl) (by kernel_rfl) (fun _ _ _ h => h) (Or.inl ⟨by rfl, ?_⟩) (by assumption) ?_
        rotate_left
        · intro w hSw; (try dsimp only at hSw); go_simp; (try rw [if_neg (by omega)]); try with_reducible rfl
        try simp only [Act.put, List.setIfInBounds_toArray, List.set_cons_zero, List.set_cons_succ]
        refine takeD (i := 14) (oi := _) (v := ?_) (some 43) rfl rfl (by kernel_rfl) (by kernel_rfl) (by kernel_rfl) (fun _ _ _ h => h) (Or.inl ⟨by rfl, ?_⟩) (by assumption) ?_
        rotate_left
        · intro w hSw; (try dsimp only at hSw); go_simp; (try rw [if_neg (by omega)]); try with_reducible rfl
        try simp only [Act.put, List.setIfInBounds_toArray, List.set_cons_zero, List.set_cons_succ]
        refine takeD (i := 15) (oi := _) (v := ?_) (some 44) rfl rfl (by kernel_rfl) (by kernel_rfl) (by kernel_rfl) (fun _ _ _ h => h) (Or.inl ⟨by rfl, ?_⟩) (by assumption) ?_
        rotate_left
        · intro w hSw; (try dsimp only at hSw); go_simp; (try rw [if_neg (by omega)]); try with_reducible rfl
        try simp only [Act.put, List.setIfInBounds_toArray, List.set_cons_zero, List.set_cons_succ]
        refine takeD (i := 16) (oi := _) (v := ?_) (some 45) rfl rfl (by kernel_rfl) (by kernel_rfl) (by kernel_rfl) (fun _ _ _ h => h) (Or.inl ⟨by rfl, ?_⟩) (by assumption) ?_
        rotate_left
        · intro w hSw; (try dsimp only at hSw); go_simp; (try rw [if_neg (by omega)]); try with_reducible rfl
        try simp only [Act.put, List.setIfInBounds_toArray, List.set_cons_zero, List.set_cons_succ]
        refine takeD (i := 17) (oi := _) (v := ?_) (some 46) rfl rfl (by kernel_rfl) (by kernel_rfl) (by kernel_rfl) (fun _ _ _ h => h) (Or.inl ⟨by rfl, ?_⟩) (by assumption) ?_
        rotate_left
        · intro w hSw; (try dsimp only at hSw); go_simp; (try rw [if_neg (by omega)]); try with_reducible rfl
        try simp only [Act.put, List.setIfInBounds_toArray, List.set_cons_zero, List.set_cons_succ]
        refine takeD (i := 18) (oi := _) (v := ?_) (some 47) rfl rfl (by kernel_rfl) (by kernel_rfl) (by kernel_rfl) (fun _ _ _ h => h) (Or.inl ⟨by rfl, ?_⟩) (by assumption) ?_
        rotate_left
        · intro w hSw; (try dsimp only at hSw); go_simp; (try rw [if_neg (by omega)]); try with_reducible rfl
        try simp only [Act.put, List.setIfInBounds_toArray, List.set_cons_zero, List.set_cons_succ]
        refine takeD (i := 19) (oi := _) (v := ?_) (some 48) rfl rfl (by kernel_rfl) (by kernel_rfl) (by kernel_rfl) (fun _ _ _ h => h) (Or.inl ⟨by rfl, ?_⟩) (by assumption) ?_
        rotate_left
        · intro w hSw; (try dsimp only at hSw); go_simp; (try rw [if_neg (by omega)]); try with_reducible rfl
        try simp only [Act.put, List.setIfInBounds_toArray, List.set_cons_zero, List.set_cons_succ]
        refine wpAnyH_ready (rs := [20]) (by kernel_rfl) (by simp) ?_
        refine AllReadyH.cons (o := _) rfl (fun K hK => ?_) AllReadyH.nil
        go_simp
        refine hK.out _ _ (heldB5 hHeld ((Below.refl _ _).alloc (heldL5 hHeld).size _) hg1 hg1 hg1 hg1 hg1) (fun hHeld => ?_)
        clear hK K
        try simp only [Act.put, List.setIfInBounds_toArray, List.set_cons_zero, List.set_cons_succ]
        refine appendD 21 (some 50) rfl rfl (by kernel_rfl) rfl _ _ 56 rfl w1.heap.size 122 i0 (.agg #[.bool false, .int .i64 0, .int .i64 0, .int .i64 0, .int .i64 0]) 5 40 Try.underlying56 hi hz0 hz1 hz2 rfl (by decide) _ k _ rfl (World.ownsRow.alloc (Acc.drew hacc.out).1 _) _ 1 1 (Res.enc ⟨b0, (m1 : Int) - 1, ⟨(m2 : Int), (m3 : Int), (m4 : Int)⟩⟩) rfl rfl (rd_litd (by rfl) (by simp)) (by simp [Value.oneCell', Res.enc]) (by decide) (by unfold maxLen; omega) (by omega) (by have := hb1r.size; simp; omega) ?_
        intro gg cc w9 ho9 hg9
        skip
        refine ⟨heldB5 hHeld ((Below.refl _ _).grown hg9 (heldL5 hHeld).size (fun q hq => (hacc.out.1.lt q hq).1)) hg1 hg1 hg1 hg1 hg1, ?_⟩
        have hHeld := heldB5 hHeld ((Below.refl _ _).grown hg9 (heldL5 hHeld).size (fun q hq => (hacc.out.1.lt q hq).1)) hg1 hg1 hg1 hg1 hg1
        try simp only [Act.put, List.setIfInBounds_toArray, List.set_cons_zero, List.set_cons_succ]
        refine takeD (i := 22) (oi := _) (v := ?_) (some 6) rfl rfl (by kernel_rfl) (by kernel_rfl) (by kernel_rfl) (fun _ _ _ h => h) (Or.inl ⟨by rfl, ?_⟩) (by assumption) ?_
        rotate_left
        · intro w hSw; (try dsimp only at hSw); go_simp; (try rw [if_neg (by omega)]); try with_reducible rfl
        try simp only [Act.put, List.setIfInBounds_toArray, List.set_cons_zero, List.set_cons_succ]
        refine wpAnyH_done (by kernel_rfl) ?_ _
        have ho9 := Lib.hid ho9
        have hbl9 := Lib.hid (heldL5 hHeld)
        clear hHeld
        have HA9 : Hid (Acc w1 122 5 (k + 1) ((buildTree ns (k + 1)).flatMap Res.enc) (.slice (some ⟨gg, 0, none⟩) (k + 1) cc) w9) := hideP (by
          rw [buildTree_succ, List.flatMap_append, HD.out, HD0.out]
          exact ⟨by simpa using ho9.out, hbl9.out⟩)
        clear zw hlen
        go_wp2
        go_roundg (gk - 1)
        case measure => omega
        case rel => exact ⟨k + 1, by omega, by omega, by go_num, HA9⟩
      · have hk5 : k = 5 := by omega
        subst hk5
        obtain ⟨ta, tc, rfl, htr⟩ := hacc.out.slice
        have HTR := Lib.hid htr
        clear htr
        go_wp2_with fail
        refine (specShowTree_any _ _ _ (buildTree ns 5) (buildTree_len ns 5).symm (by decide) _ HTR.out).mono ?_
        rintro e w3 ⟨rfl, hb3⟩
        have HO3 := hideP (owns_below hacc.out.1 (Nat.le_refl _) hb3)
        have HB3 := hideP (HB.out.trans ((hbr.trans (hb3.mono hbr.size)).mono HB.out.size))
        go_wp2
        · rename_i hq
          have hne : ¬ showTree (buildTree ns 5) = bl s := fun e => by
            rw [e] at hq
            unfold bl at hq
            rw [← ByteArray.toList_eq] at hq
            simp at hq
          have HN : Hid (readTree (bl s) = none) := hideP (by rw [HRT.out, if_neg hne])
          clear hq hne
          go_ret2
          exact TreeRet.no HN.out (owns_lit HB3.out.size rfl (by decide) (by simp) rfl) (HB3.out.alloc HB3.out.size _)
        · rename_i hq
          have he : showTree (buildTree ns 5) = bl s := by
            unfold bl
            rw [← ByteArray.toList_eq]
            simpa using hq
          have HN : Hid (readTree (bl s) = some (buildTree ns 5)) := hideP (by rw [HRT.out, if_pos he])
          clear hq he
          go_ret2
          exact TreeRet.yes HN.out (owns_mono HO3.out HB.out.size) HB3.out

end Go.Proofs.Ytnchmenpgmlpdaa
