/- BootOk of the reference. -/
import Derived.Test.YtnchmenpgmlpdaaBootOk
import Derived.Test.YtnchmenpgmlpdaaObjTo
import Derived.Test.YtnchmenpgmlpdaaKeep
import Derived.Deep.DeepCutAuto
namespace Go.Proofs.Ytnchmenpgmlpdaa
open Go.RowKit

set_option maxRecDepth 100000 in
set_option maxHeartbeats 4000000 in
theorem specBootOk_any (l : List Boot) (p : Option Addr) (c : Nat) (hl : l.length ≤ maxLen) (w : World) (h : BootsRd w p l) :
    Calls Try.prog 26 #[.slice p l.length c] w fun e w' => e = .returned (.bool (bootOk l)) ∧ Below w.heap.size w w' := by
  have hl63 := hl
  unfold maxLen at hl63
  have HR := hideP h
  clear h
  have S0 : Hid (Blk (w.alloc (.cells #[.int .i64 (⟨0, 0, 0⟩ : Amt).p, .int .i64 (⟨0, 0, 0⟩ : Amt).r, .int .i64 (⟨0, 0, 0⟩ : Amt).c] 43)) w.heap.size 43 [.int .i64 (⟨0, 0, 0⟩ : Amt).p, .int .i64 (⟨0, 0, 0⟩ : Amt).r, .int .i64 (⟨0, 0, 0⟩ : Amt).c]) := hideP (Blk.new w #[.int .i64 (⟨0, 0, 0⟩ : Amt).p, .int .i64 (⟨0, 0, 0⟩ : Amt).r, .int .i64 (⟨0, 0, 0⟩ : Amt).c] 43)
  have HB := hideP (below_a1 w (.cells #[.int .i64 (⟨0, 0, 0⟩ : Amt).p, .int .i64 (⟨0, 0, 0⟩ : Amt).r, .int .i64 (⟨0, 0, 0⟩ : Amt).c] 43))
  go_enter Try.func26, Try.ntmps26
  go_wp2
  go_loopg [4] (l.length + 1) (fun gk i wr => ∃ (k : Nat) (s : Amt), l.length < gk + k ∧ k ≤ l.length ∧ i = .int .i64 (k : Int) ∧ Hid (bootGo ⟨0, 0, 0⟩ l = bootGo s (l.drop k)) ∧ Hid (Blk wr w.heap.size 43 [.int .i64 s.p, .int .i64 s.r, .int .i64 s.c]) ∧ Hid (Below w.heap.size w wr) ∧ k ≤ 3)
  case atStart => exact ⟨0, ⟨0, 0, 0⟩, by omega, by omega, rfl, hideP rfl, S0, HB, by omega⟩
  case round =>
    clear S0 HB
    obtain ⟨k, s, hgk, hk, rfl, hg, S0, HB, hk3⟩ := hrel
    by_cases hlt : k < l.length
    · by_cases hlt3 : k < 3
      · obtain ⟨x, hx⟩ := some_at (l := l) (k := k) hlt
        obtain ⟨b, o, al, cl, ao, co, rfl, hbw, r1, r2, m1, m2, g0, g1, g2, g3, g4⟩ := HR.out.below HB.out k x hx
        have k0 : (0 : Int) ≤ (k : Int) := by omega
        have k1 : (k : Int) < (l.length : Int) := by omega
        have k2 : (k : Int) < 3 := by omega
        have sw : w.heap.size < wr.heap.size := S0.out.lt
        go_wp2_with fail
        refine (specLabelOk_any x.lv al cl m1 _ r1).mono ?_
        rintro e wu ⟨rfl, hbu⟩
        have hzu := hbu.size
        have S0 := hideP (S0.out.below hbu)
        have HB := hideP (HB.out.trans (hbu.mono HB.out.size))
        have r2 := hideP (r2.below hbu)
        have g1 := (hbu.cell (p := ⟨b, _, none⟩) hbw).trans g1
        have g2 := (hbu.cell (p := ⟨b, _, none⟩) hbw).trans g2
        have g3 := (hbu.cell (p := ⟨b, _, none⟩) hbw).trans g3
        have g4 := (hbu.cell (p := ⟨b, _, none⟩) hbw).trans g4
        clear hbu g0 r1
        cases tl : labelOk x.lv
        · have HF : Hid (bootOk l = false) := hideP (boot_bad hg.out hx (.inr (.inl tl)))
          clear hx hg
          go_wp2
          go_ret
          exact ⟨ret_bool HF.out.symm, HB.out⟩
        · go_wp2_with fail
          refine (specOwnOk_any x.own ao co m2 _ r2.out).mono ?_
          rintro e wv ⟨rfl, qq⟩
          have hbv := qq.below wu.heap.size
          have hzv := hbv.size
          have S0 := hideP (S0.out.below hbv)
          have HB := hideP (HB.out.trans (hbv.mono HB.out.size))
          have g2 := (hbv.cell (p := ⟨b, _, none⟩) (show b < wu.heap.size by omega)).trans g2
          have g3 := (hbv.cell (p := ⟨b, _, none⟩) (show b < wu.heap.size by omega)).trans g3
          have g4 := (hbv.cell (p := ⟨b, _, none⟩) (show b < wu.heap.size by omega)).trans g4
          have hbw : b < wv.heap.size := by omega
          have sw : w.heap.size < wv.heap.size := by omega
          clear hbv qq g1 r2
          cases tn : ownOk x.own
          · have HF : Hid (bootOk l = false) := hideP (boot_bad hg.out hx (.inr (.inr tn)))
            clear hx hg
            go_wp2
            go_ret
            exact ⟨ret_bool HF.out.symm, HB.out⟩
          · obtain ⟨⟨nx, nb⟩, hN⟩ : ∃ y, amtAddB s x.a = y := ⟨_, rfl⟩
            have HN := hideP hN
            have s0 : wv.cell? ⟨w.heap.size, 0, none⟩ = some (.int .i64 s.p) := (S0.out.cell 0).trans rfl
            have s1 : wv.cell? ⟨w.heap.size, 1, none⟩ = some (.int .i64 s.r) := (S0.out.cell 1).trans rfl
            have s2 : wv.cell? ⟨w.heap.size, 2, none⟩ = some (.int .i64 s.c) := (S0.out.cell 2).trans rfl
            go_upto_region 7 with fail
            go_cut [5, 6] (fun p bb wx => ∃ q, p = .pointer (some ⟨q, 0, none⟩) ∧ w.heap.size < q ∧ bb = .bool nb ∧ Hid (Blk wx q 43 [.int .i64 nx.p, .int .i64 nx.r, .int .i64 nx.c]) ∧ Hid (Blk wx w.heap.size 43 [.int .i64 s.p, .int .i64 s.r, .int .i64 s.c]) ∧ Below wv.heap.size wv wx)
            case first =>
              refine wp_region_held_drew (S := fun w' => Below wv.heap.size wv w') (by kernel_rfl) ((Below.refl _ _).drew) (fun hHeld => ?_)
              refine takeD (i := 0) (oi := _) (v := ?_) (some 35) rfl rfl (by kernel_rfl) (by kernel_rfl) (by kernel_rfl) (fun _ _ _ h => h) (Or.inl ⟨by rfl, ?_⟩) (by assumption) ?_
              rotate_left
              · intro wS hSw; have z0 := (hSw.cell (p := ⟨w.heap.size, 0, none⟩) sw).trans s0; have z1 := (hSw.cell (p := ⟨w.heap.size, 1, none⟩) sw).trans s1; have z2 := (hSw.cell (p := ⟨w.heap.size, 2, none⟩) sw).trans s2; go_simp; (try rw [if_neg (by omega)]); try with_reducible rfl
              try simp only [Act.put, List.setIfInBounds_toArray, List.set_cons_zero, List.set_cons_succ]
              refine takeD (i := 1) (oi := _) (v := ?_) (some 36) rfl rfl (by kernel_rfl) (by kernel_rfl) (by kernel_rfl) (fun _ _ _ h => h) (Or.inl ⟨by rfl, ?_⟩) (by assumption) ?_
              rotate_left
              · intro wS hSw; (try dsimp only at hSw); go_simp; (try rw [if_neg (by omega)]); try with_reducible rfl
              try simp only [Act.put, List.setIfInBounds_toArray, List.set_cons_zero, List.set_cons_succ]
              refine takeD (i := 2) (oi := _) (v := ?_) (some 37) rfl rfl (by kernel_rfl) (by kernel_rfl) (by kernel_rfl) (fun _ _ _ h => h) (Or.inl ⟨by rfl, ?_⟩) (by assumption) ?_
              rotate_left
              · intro wS hSw; (try dsimp only at hSw); go_simp; (try rw [if_neg (by omega)]); try with_reducible rfl
              try simp only [Act.put, List.setIfInBounds_toArray, List.set_cons_zero, List.set_cons_succ]
              refine takeD (i := 3) (oi := _) (v := ?_) (some 38) rfl rfl (by kernel_rfl) (by kernel_rfl) (by kernel_rfl) (fun _ _ _ h => h) (Or.inl ⟨by rfl, ?_⟩) (by assumption) ?_
              rotate_left
              · intro wS hSw; (try dsimp only at hSw); go_simp; (try rw [if_neg (by omega)]); try with_reducible rfl
              try simp only [Act.put, List.setIfInBounds_toArray, List.set_cons_zero, List.set_cons_succ]
              refine takeD (i := 4) (oi := _) (v := ?_) (some 39) rfl rfl (by kernel_rfl) (by kernel_rfl) (by kernel_rfl) (fun _ _ _ h => h) (Or.inl ⟨by rfl, ?_⟩) (by assumption) ?_
              rotate_left
              · intro wS hSw; (try dsimp only at hSw); go_simp; (try rw [if_neg (by omega)]); try with_reducible rfl
              try simp only [Act.put, List.setIfInBounds_toArray, List.set_cons_zero, List.set_cons_succ]
              refine takeD (i := 5) (oi := _) (v := ?_) (some 40) rfl rfl (by kernel_rfl) (by kernel_rfl) (by kernel_rfl) (fun _ _ _ h => h) (Or.inl ⟨by rfl, ?_⟩) (by assumption) ?_
              rotate_left
              · intro wS hSw; have z0 := (hSw.cell (p := ⟨b, o + k * 5 + 2, none⟩) hbw).trans g2; have z1 := (hSw.cell (p := ⟨b, o + k * 5 + 3, none⟩) hbw).trans g3; have z2 := (hSw.cell (p := ⟨b, o + k * 5 + 4, none⟩) hbw).trans g4; go_simp; (try rw [if_neg (by omega)]); try with_reducible rfl
              try simp only [Act.put, List.setIfInBounds_toArray, List.set_cons_zero, List.set_cons_succ]
              refine wpAnyH_ready (rs := [6, 10]) (by kernel_rfl) (by simp) ?_
              refine AllReadyH.cons (o := _) rfl (fun K hK => ?_) (AllReadyH.cons (o := _) rfl (fun K hK => ?_) (AllReadyH.nil))
              · go_simp
                refine (specAmtAdd_any s x.a _).mono ?_
                rintro e w1 ⟨rfl, hb1⟩
                rw [hN]
                dsimp only
                have hcl := hHeld.trans (hb1.mono hHeld.size)
                have hsz : wv.heap.size ≤ w1.heap.size := hcl.size
                go_wp2_with fail
                refine hK.out _ _ (hcl) (fun hNext => ?_)
                clear hK K hHeld
                revert hNext
                intro hHeld
                try simp only [Act.put, List.setIfInBounds_toArray, List.set_cons_zero, List.set_cons_succ]
                refine takeD (i := 7) (oi := _) (v := ?_) (some 34) rfl rfl (by kernel_rfl) (by kernel_rfl) (by kernel_rfl) (fun _ _ _ h => h) (Or.inl ⟨by rfl, ?_⟩) (by assumption) ?_
                rotate_left
                · intro wS hSw; (try dsimp only at hSw); go_simp; (try rw [if_neg (by omega)]); try with_reducible rfl
                try simp only [Act.put, List.setIfInBounds_toArray, List.set_cons_zero, List.set_cons_succ]
                refine takeD (i := 8) (oi := _) (v := ?_) (some 42) rfl rfl (by kernel_rfl) (by kernel_rfl) (by kernel_rfl) (fun _ _ _ h => h) (Or.inl ⟨by rfl, ?_⟩) (by assumption) ?_
                rotate_left
                · intro wS hSw; (try dsimp only at hSw); go_simp; (try rw [if_neg (by omega)]); try with_reducible rfl
                try simp only [Act.put, List.setIfInBounds_toArray, List.set_cons_zero, List.set_cons_succ]
                refine takeD (i := 9) (oi := _) (v := ?_) (some 43) rfl rfl (by kernel_rfl) (by kernel_rfl) (by kernel_rfl) (fun _ _ _ h => h) (Or.inl ⟨by rfl, ?_⟩) (by assumption) ?_
                rotate_left
                · intro wS hSw; (try dsimp only at hSw); go_simp; (try rw [if_neg (by omega)]); try with_reducible rfl
                try simp only [Act.put, List.setIfInBounds_toArray, List.set_cons_zero, List.set_cons_succ]
                refine wpAnyH_ready (rs := [10]) (by kernel_rfl) (by simp) ?_
                refine AllReadyH.cons (o := _) rfl (fun K hK => ?_) (AllReadyH.nil)
                · go_simp
                  refine hK.out _ _ (by repeat (first | (with_reducible assumption) | (refine Below.drew ?_) | (refine Below.setCell ?_ (by first | exact Nat.le_refl _ | omega | (simp; done) | (simp; omega)) _) | (refine Below.alloc ?_ (by first | exact Nat.le_refl _ | omega | (simp; done) | (simp; omega)) _) | exact Below.refl _ _)) (fun hNext => ?_)
                  clear hK K hHeld
                  revert hNext
                  intro hHeld
                  try simp only [Act.put, List.setIfInBounds_toArray, List.set_cons_zero, List.set_cons_succ]
                  refine wpAnyH_ready (rs := [11]) (by kernel_rfl) (by simp) ?_
                  refine AllReadyH.cons (o := _) rfl (fun K hK => ?_) (AllReadyH.nil)
                  · go_simp
                    refine hK.out _ _ (by repeat (first | (with_reducible assumption) | (refine Below.drew ?_) | (refine Below.setCell ?_ (by first | exact Nat.le_refl _ | omega | (simp; done) | (simp; omega)) _) | (refine Below.alloc ?_ (by first | exact Nat.le_refl _ | omega | (simp; done) | (simp; omega)) _) | exact Below.refl _ _)) (fun hNext => ?_)
                    clear hK K hHeld
                    revert hNext
                    intro hHeld
                    try simp only [Act.put, List.setIfInBounds_toArray, List.set_cons_zero, List.set_cons_succ]
                    refine takeD (i := 12) (oi := _) (v := ?_) (some 6) rfl rfl (by kernel_rfl) (by kernel_rfl) (by kernel_rfl) (fun _ _ _ h => h) (Or.inl ⟨by rfl, ?_⟩) (by assumption) ?_
                    rotate_left
                    · intro wS hSw; (try dsimp only at hSw); go_simp; (try rw [if_neg (by omega)]); try with_reducible rfl
                    try simp only [Act.put, List.setIfInBounds_toArray, List.set_cons_zero, List.set_cons_succ]
                    refine wpAnyH_done (by kernel_rfl) ?_ _
                    have sw1 : w.heap.size < w1.heap.size := by have := hcl.size; omega
                    clear hHeld
                    go_wp2
                    go_meet
                    exact ⟨w1.heap.size, rfl, sw1, rfl, hideP (Blk.new' #[.int .i64 nx.p, .int .i64 nx.r, .int .i64 nx.c] 43 rfl), hideP ((S0.out.below hcl).alloc _), (by repeat (first | (with_reducible assumption) | (refine Below.drew ?_) | (refine Below.setCell ?_ (by first | exact Nat.le_refl _ | omega | (simp; done) | (simp; omega)) _) | (refine Below.alloc ?_ (by first | exact Nat.le_refl _ | omega | (simp; done) | (simp; omega)) _) | exact Below.refl _ _))⟩
              · go_simp
                refine hK.out _ _ (by repeat (first | (with_reducible assumption) | (refine Below.drew ?_) | (refine Below.setCell ?_ (by first | exact Nat.le_refl _ | omega | (simp; done) | (simp; omega)) _) | (refine Below.alloc ?_ (by first | exact Nat.le_refl _ | omega | (simp; done) | (simp; omega)) _) | exact Below.refl _ _)) (fun hNext => ?_)
                clear hK K hHeld
                revert hNext
                intro hHeld
                try simp only [Act.put, List.setIfInBounds_toArray, List.set_cons_zero, List.set_cons_succ]
                refine wpAnyH_ready (rs := [6]) (by kernel_rfl) (by simp) ?_
                refine AllReadyH.cons (o := _) rfl (fun K hK => ?_) (AllReadyH.nil)
                · go_simp
                  refine (specAmtAdd_any s x.a _).mono ?_
                  rintro e w1 ⟨rfl, hb1⟩
                  rw [hN]
                  dsimp only
                  have hcl := hHeld.trans (hb1.mono hHeld.size)
                  have hsz : wv.heap.size ≤ w1.heap.size := hcl.size
                  have Z0 : Blk ((wv.alloc (.cells #[.int .i64 0, .int .i64 0, .int .i64 0] 43)).drew) wv.heap.size 43 [.int .i64 0, .int .i64 0, .int .i64 0] := Blk.new' (w := wv) (g := wv.heap.size) #[.int .i64 0, .int .i64 0, .int .i64 0] 43 rfl
                  have Z1 := hideP (Z0.below hb1)
                  go_wp2_with fail
                  refine hK.out _ _ (hcl) (fun hNext => ?_)
                  clear hK K hHeld
                  revert hNext
                  intro hHeld
                  have z0 : w1.cell? ⟨wv.heap.size, 0, none⟩ = some (.int .i64 0) := (Z1.out.cell 0).trans rfl
                  have y0 : w1.frozen? ⟨wv.heap.size, 0, none⟩ = false := Z1.out.frozen 0
                  have z1 : w1.cell? ⟨wv.heap.size, 1, none⟩ = some (.int .i64 0) := (Z1.out.cell 1).trans rfl
                  have y1 : w1.frozen? ⟨wv.heap.size, 1, none⟩ = false := Z1.out.frozen 1
                  have z2 : w1.cell? ⟨wv.heap.size, 2, none⟩ = some (.int .i64 0) := (Z1.out.cell 2).trans rfl
                  have y2 : w1.frozen? ⟨wv.heap.size, 2, none⟩ = false := Z1.out.frozen 2
                  try simp only [Act.put, List.setIfInBounds_toArray, List.set_cons_zero, List.set_cons_succ]
                  refine takeD (i := 7) (oi := _) (v := ?_) (some 34) rfl rfl (by kernel_rfl) (by kernel_rfl) (by kernel_rfl) (fun _ _ _ h => h) (Or.inl ⟨by rfl, ?_⟩) (by assumption) ?_
                  rotate_left
                  · intro wS hSw; (try dsimp only at hSw); go_simp; (try rw [if_neg (by omega)]); try with_reducible rfl
                  try simp only [Act.put, List.setIfInBounds_toArray, List.set_cons_zero, List.set_cons_succ]
                  refine takeD (i := 8) (oi := _) (v := ?_) (some 42) rfl rfl (by kernel_rfl) (by kernel_rfl) (by kernel_rfl) (fun _ _ _ h => h) (Or.inl ⟨by rfl, ?_⟩) (by assumption) ?_
                  rotate_left
                  · intro wS hSw; (try dsimp only at hSw); go_simp; (try rw [if_neg (by omega)]); try with_reducible rfl
                  try simp only [Act.put, List.setIfInBounds_toArray, List.set_cons_zero, List.set_cons_succ]
                  refine takeD (i := 9) (oi := _) (v := ?_) (some 43) rfl rfl (by kernel_rfl) (by kernel_rfl) (by kernel_rfl) (fun _ _ _ h => h) (Or.inl ⟨by rfl, ?_⟩) (by assumption) ?_
                  rotate_left
                  · intro wS hSw; (try dsimp only at hSw); go_simp; (try rw [if_neg (by omega)]); try with_reducible rfl
                  try simp only [Act.put, List.setIfInBounds_toArray, List.set_cons_zero, List.set_cons_succ]
                  refine wpAnyH_ready (rs := [11]) (by kernel_rfl) (by simp) ?_
                  refine AllReadyH.cons (o := _) rfl (fun K hK => ?_) (AllReadyH.nil)
                  · go_simp
                    refine hK.out _ _ (by repeat (first | (with_reducible assumption) | (refine Below.drew ?_) | (refine Below.setCell ?_ (by first | exact Nat.le_refl _ | omega | (simp; done) | (simp; omega)) _) | (refine Below.alloc ?_ (by first | exact Nat.le_refl _ | omega | (simp; done) | (simp; omega)) _) | exact Below.refl _ _)) (fun hNext => ?_)
                    clear hK K hHeld
                    revert hNext
                    intro hHeld
                    try simp only [Act.put, List.setIfInBounds_toArray, List.set_cons_zero, List.set_cons_succ]
                    refine takeD (i := 12) (oi := _) (v := ?_) (some 6) rfl rfl (by kernel_rfl) (by kernel_rfl) (by kernel_rfl) (fun _ _ _ h => h) (Or.inl ⟨by rfl, ?_⟩) (by assumption) ?_
                    rotate_left
                    · intro wS hSw; (try dsimp only at hSw); go_simp; (try rw [if_neg (by omega)]); try with_reducible rfl
                    try simp only [Act.put, List.setIfInBounds_toArray, List.set_cons_zero, List.set_cons_succ]
                    refine wpAnyH_done (by kernel_rfl) ?_ _
                    clear hHeld
                    go_wp2
                    go_meet
                    exact ⟨wv.heap.size, rfl, sw, rfl, hideP (((Z1.out.set 0 (.int .i64 nx.p)).set 1 (.int .i64 nx.r)).set 2 (.int .i64 nx.c)), hideP ((((S0.out.below hcl).other 0 (.int .i64 nx.p) (by omega)).other 1 (.int .i64 nx.r) (by omega)).other 2 (.int .i64 nx.c) (by omega)), (by repeat (first | (with_reducible assumption) | (refine Below.drew ?_) | (refine Below.setCell ?_ (by first | exact Nat.le_refl _ | omega | (simp; done) | (simp; omega)) _) | (refine Below.alloc ?_ (by first | exact Nat.le_refl _ | omega | (simp; done) | (simp; omega)) _) | exact Below.refl _ _))⟩
            case rest =>
            clear hN s0 s1 s2 g2 g3 g4 S0
            obtain ⟨q, rfl, hq, rfl, N0, S0, hb⟩ := hcut
            have HB := hideP (HB.out.trans (hb.mono HB.out.size))
            clear hb
            cases nb
            · have HF : Hid (bootOk l = false) := hideP (boot_bad hg.out hx (.inl (by rw [HN.out])))
              clear hx hg
              go_wp2
              go_ret
              exact ⟨ret_bool HF.out.symm, HB.out⟩
            · have HG : Hid (bootGo ⟨0, 0, 0⟩ l = bootGo nx (l.drop (k + 1))) := hideP (by have := boot_good hg.out hx (by rw [HN.out]) tl tn; rwa [HN.out] at this)
              clear hx hg tl tn
              have n0 : wc.cell? ⟨q, 0, none⟩ = some (.int .i64 nx.p) := (N0.out.cell 0).trans rfl
              have s0 : wc.cell? ⟨w.heap.size, 0, none⟩ = some (.int .i64 s.p) := (S0.out.cell 0).trans rfl
              have f0 : wc.frozen? ⟨w.heap.size, 0, none⟩ = false := S0.out.frozen 0
              have n1 : wc.cell? ⟨q, 1, none⟩ = some (.int .i64 nx.r) := (N0.out.cell 1).trans rfl
              have s1 : wc.cell? ⟨w.heap.size, 1, none⟩ = some (.int .i64 s.r) := (S0.out.cell 1).trans rfl
              have f1 : wc.frozen? ⟨w.heap.size, 1, none⟩ = false := S0.out.frozen 1
              have n2 : wc.cell? ⟨q, 2, none⟩ = some (.int .i64 nx.c) := (N0.out.cell 2).trans rfl
              have s2 : wc.cell? ⟨w.heap.size, 2, none⟩ = some (.int .i64 s.c) := (S0.out.cell 2).trans rfl
              have f2 : wc.frozen? ⟨w.heap.size, 2, none⟩ = false := S0.out.frozen 2
              have S1 : Hid (Blk (((wc.setCell ⟨w.heap.size, 0, none⟩ (.int .i64 nx.p)).setCell ⟨w.heap.size, 1, none⟩ (.int .i64 nx.r)).setCell ⟨w.heap.size, 2, none⟩ (.int .i64 nx.c)) w.heap.size 43 [.int .i64 nx.p, .int .i64 nx.r, .int .i64 nx.c]) := hideP (((S0.out.set 0 (.int .i64 nx.p)).set 1 (.int .i64 nx.r)).set 2 (.int .i64 nx.c))
              have HB1 : Hid (Below w.heap.size w (((wc.setCell ⟨w.heap.size, 0, none⟩ (.int .i64 nx.p)).setCell ⟨w.heap.size, 1, none⟩ (.int .i64 nx.r)).setCell ⟨w.heap.size, 2, none⟩ (.int .i64 nx.c))) := hideP (((HB.out.setCell (p := ⟨w.heap.size, 0, none⟩) (by simp) _).setCell (p := ⟨w.heap.size, 1, none⟩) (by simp) _).setCell (p := ⟨w.heap.size, 2, none⟩) (by simp) _)
              clear S0 HB N0
              go_wp2
              go_roundg (gk - 1)
              case measure => omega
              case rel => exact ⟨k + 1, nx, by omega, by omega, by go_num, HG, S1, HB1, by omega⟩
      · have HN : Hid (bootOk l = inB (l.length : Int) 1 3) := hideP (by unfold bootOk; rw [inB_false.2 (by omega), Bool.and_false])
        have d1 : (k : Int) < (l.length : Int) := by omega
        have d2 : ¬ ((k : Int) < 3) := by omega
        clear hg
        go_wp2_with fail
        refine (l1In_any _ _ _ _).mono ?_
        rintro e w' ⟨rfl, rfl⟩
        go_wp2
        go_ret
        exact ⟨ret_bool HN.out.symm, HB.out⟩
    · have HN := hideP (boot_end hg.out (by omega))
      have d1 : ¬ ((k : Int) < (l.length : Int)) := by omega
      clear hg
      go_wp2_with fail
      refine (l1In_any _ _ _ _).mono ?_
      rintro e w' ⟨rfl, rfl⟩
      go_wp2
      go_ret
      exact ⟨ret_bool HN.out.symm, HB.out⟩

end Go.Proofs.Ytnchmenpgmlpdaa
