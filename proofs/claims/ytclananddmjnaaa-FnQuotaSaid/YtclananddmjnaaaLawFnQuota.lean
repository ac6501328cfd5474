/- The walk of FnQuota. -/
import Derived.Test.YtclananddmjnaaaDrawNodes
import Derived.Test.YtclananddmjnaaaQuotaLaws
import Derived.Test.YtclananddmjnaaaChargeImpl
import Derived.Test.YtclananddmjnaaaRefundImpl
import Derived.Test.YtclananddmjnaaaBig
import Derived.Test.YtclananddmjnaaaKeep
import Derived.Deep.RegionHeld3
namespace Go.Proofs.Ytclananddmjnaaa
open Go.RowKit


theorem refund_back {l : List Node} {k : Nat} {x : Node} {m : Int} (h : hasQ l (k : Int) = true) (hm : inB m 0 (room l (k : Int)) = true) (hx : l[k]? = some x) : refund (charged l (k : Int) m) (k : Int) m = (l, true) := by
  obtain ⟨h1, h2⟩ := charged_own h hm hx
  have h0 := (ownUse_nonneg (has_split h).1 hx).1
  have hm' := inB_true.1 hm
  rw [refund_yes h1 (inB_true.2 (by omega)), charged_back h hm]

theorem last2 {a b c : Prop} (h : a ∧ b ∧ c) : c := h.2.2
theorem last6 {a b c d e f g : Prop} (h : a ∧ b ∧ c ∧ d ∧ e ∧ f ∧ g) : g := h.2.2.2.2.2.2
set_option maxRecDepth 100000 in
set_option maxHeartbeats 8000000 in
theorem lawFnQuota_walk (a : Option Addr) (n cap : Nat) (cl : List UInt8) (hn : n = cl.length) (hl : n ≤ maxLen) (w : World) (h : Rd w a (byteCells cl)) :
    Calls Try.prog 11 #[.slice a n cap] w fun e w' => e = .returned (.bool true) ∧ Below w.heap.size w w' := by
  have Hn := Lib.hid hn
  clear hn
  by_cases hs : n ≤ 1048576
  · have d0 : decide (1048576 < n) = false := by simpa using hs
    go_enter Try.func11, Try.ntmps11
    go_wp2_with fail
    refine (big_any _ _ _ _ hl).mono ?_
    rintro e w' ⟨rfl, rfl⟩
    rw [d0]
    go_wp2_with fail
    refine (drawCharge_any _ _ _ cl Hn.out hs _ h).mono ?_
    rintro e W ⟨v, l, i, m, rfl, hlen, ho, hb0⟩
    obtain ⟨la, lc, rfl, _⟩ := owns_slice ho
    have HR := hideP (rd_of_owns ho)
    have HB0 := Lib.hid hb0
    have hln : l.length ≤ 1048576 := by omega
    clear ho hb0 h
    go_wp2_with fail
    refine (implCharge_any _ _ _ l i m rfl hln _ HR.out).mono ?_
    rintro e Wx ⟨vx, rfl, hox, hbx0⟩
    obtain ⟨xa, xc, rfl, _⟩ := owns_slice hox
    have HX0 := hideP (rd_of_owns hox)
    have HBX := Lib.hid hbx0
    have HL := hideP (HR.out.below hbx0)
    clear hox hbx0
    cases hh : hasQ l i
    · have Hc := Lib.hid (charge_no1 (m := m) hh)
      have Hr := Lib.hid (room_no hh)
      rw [Hc.out]
      go_wp2_with fail
      refine (specQuotaOk_any _ _ _ l rfl hln _ HL.out).mono ?_
      rintro e Wq ⟨rfl, nq, rfl⟩
      cases hq : quotaOk l
      · go_wp2_with fail
        refine (implRoom_any _ _ _ l _ rfl hln _ (HL.out.drewN _)).mono ?_
        rintro e w4 ⟨rfl, hb4⟩
        rw [Hr.out]
        go_wp2
        go_ret
        exact ⟨rfl, HB0.out.trans ((HBX.out.trans (((below_drewN (Below.refl _ _) _).trans hb4).mono HBX.out.size)).mono HB0.out.size)⟩
      · have hi : i < 0 ∨ (0 ≤ i ∧ (l.length : Int) ≤ i) := by
          unfold hasQ at hh
          rw [hq, Bool.true_and, inB_false] at hh
          omega
        clear hh
        rcases hi with hi | ⟨hi, hi2⟩
        all_goals
          go_wp2_with fail
          refine (implRoom_any _ _ _ l _ rfl hln _ (HL.out.drewN _)).mono ?_
          rintro e w4 ⟨rfl, hb4⟩
          rw [Hr.out]
          go_wp2
          go_ret
          exact ⟨rfl, HB0.out.trans ((HBX.out.trans (((below_drewN (Below.refl _ _) _).trans hb4).mono HBX.out.size)).mono HB0.out.size)⟩
    · obtain ⟨hq, k0, x0, rfl, hx0, hk0⟩ := has_split hh
      have HH := Lib.hid hh
      have HQ0 := Lib.hid hq
      have hlk : (k0 : Int) < (l.length : Int) := by omega
      cases hm : inB m 0 (room l (k0 : Int))
      · have Hc := Lib.hid (charge_no2 (l := l) (i := (k0 : Int)) hm)
        rw [Hc.out] at HX0 ⊢
        have HX : Hid (Rd Wx xa (l.flatMap Node.enc)) := HX0
        have HQ := HQ0
        have HNO := Lib.hid (quotaOk_nodes hq)
        clear HX0 hh hx0
        go_wp2_with fail
        refine (specQuotaOk_any _ _ _ l rfl hln _ HL.out).mono ?_
        rintro e Wq ⟨rfl, nq, rfl⟩
        rw [HQ.out]
        by_cases hm0 : m < 0
        · go_wp2_with fail
          refine (specQuotaOk_any _ _ _ l rfl hln _ (HX.out.drewN _)).mono ?_
          rintro e Wq ⟨rfl, nq2, rfl⟩
          rw [HQ.out]
          have hbx := below_drewN (below_drewN (Below.refl Wx.heap.size Wx) nq) nq2
          clear hm
          go_wp2
          go_loopg [8, 9] (l.length + 1) (fun gk sm iv wr => ∃ (k : Nat) (acc : Int), l.length < gk + k ∧ k ≤ l.length ∧ iv = .int .i64 k ∧ sm = .int .i64 acc ∧ 0 ≤ acc ∧ acc ≤ 1000000 * k ∧ Hid (ownSum l k = acc) ∧ Below Wx.heap.size Wx wr)
          case atStart => exact ⟨0, 0, by omega, by omega, rfl, rfl, by omega, by omega, hideP rfl, by first | exact hbx | exact below_drewN (Below.refl _ _) _⟩
          case round =>
            obtain ⟨k, acc, hgk, hk, rfl, rfl, ha0, ha1, hsa, hb⟩ := hrel
            by_cases hlt : k < l.length
            · obtain ⟨y, hy⟩ := some_at (l := l) (k := k) (by have := hk; omega)
              obtain ⟨xb, xo, hxa, hxbw, g1, g2, g3⟩ := (HX.out.below hb).rowNode hy
              obtain ⟨yu0, yu1, yl, yu2, yu3⟩ : 0 ≤ y.u ∧ y.u ≤ y.l ∧ y.l ≤ 1000000 ∧ 0 ≤ y.l ∧ y.u ≤ 1000000 := by have := node_up HNO.out hy; omega
              obtain ⟨ou0, ou1⟩ := ownUse_nonneg HQ.out hy
              have dg1 : decide (y.l < y.u) = false := by simp; omega
              have dg2 : decide (ownUse l (k : Int) < 0) = false := by simp; omega
              have HSA : Hid (ownSum l (k + 1) = acc + ownUse l (k : Int)) := hideP (by rw [ownSum, hsa.out])
              obtain ⟨lb, lo, hla, hlbw, k1, k2, k3⟩ := (HL.out.below hb).rowNode (show l[k]? = some y from hy)
              have hla' := Lib.hid hla
              clear hla
              subst hxa
              have hla'' := hla'.out; subst hla''
              clear hy
              go_wp2_with fail
              refine (implOwnUse_any _ _ _ l _ rfl hln _ (HX.out.below hb)).mono ?_
              rintro e WB ⟨rfl, hb2⟩
              have hbB := hb.trans (hb2.mono hb.size)
              have hz := hb2.size
              have wg1 := (hb2.cell (p := ⟨xb, xo + k * 3, none⟩) hxbw).trans g1
              have wg2 := (hb2.cell (p := ⟨xb, xo + k * 3 + 1, none⟩) hxbw).trans g2
              have wg3 := (hb2.cell (p := ⟨xb, xo + k * 3 + 2, none⟩) hxbw).trans g3
              have wk1 := (hb2.cell (p := ⟨lb, lo + k * 3, none⟩) hlbw).trans k1
              have wk2 := (hb2.cell (p := ⟨lb, lo + k * 3 + 1, none⟩) hlbw).trans k2
              have wk3 := (hb2.cell (p := ⟨lb, lo + k * 3 + 2, none⟩) hlbw).trans k3
              go_wp2
              have hxbwB : xb < WB.heap.size := Nat.lt_of_lt_of_le hxbw hz
              have hlbwB : lb < WB.heap.size := Nat.lt_of_lt_of_le hlbw hz
              refine wp_region_held_drew (S := fun w' => w'.cell? ⟨xb, xo + k * 3, none⟩ = some (.int .i64 y.p) ∧ w'.cell? ⟨xb, xo + k * 3 + 1, none⟩ = some (.int .i64 y.l) ∧ w'.cell? ⟨xb, xo + k * 3 + 2, none⟩ = some (.int .i64 y.u) ∧ w'.cell? ⟨lb, lo + k * 3, none⟩ = some (.int .i64 y.p) ∧ w'.cell? ⟨lb, lo + k * 3 + 1, none⟩ = some (.int .i64 y.l) ∧ w'.cell? ⟨lb, lo + k * 3 + 2, none⟩ = some (.int .i64 y.u) ∧ Below WB.heap.size WB w') (by kernel_rfl) (held06 wg1 wg2 wg3 wk1 wk2 wk3) (fun hHeld => ?_)
              refine takeD (i := 0) (oi := _) (v := ?_) (some 83) rfl rfl (by kernel_rfl) (by kernel_rfl) (by kernel_rfl) (fun _ _ _ h => h) (Or.inl ⟨by rfl, ?_⟩) (by assumption) ?_
              rotate_left
              · intro w hSw; (try dsimp only at hSw); go_simp; (try rw [if_neg (by omega)]); try with_reducible rfl
              try simp only [Act.put, List.setIfInBounds_toArray, List.set_cons_zero, List.set_cons_succ]
              refine takeD (i := 1) (oi := _) (v := ?_) (some 84) rfl rfl (by kernel_rfl) (by kernel_rfl) (by kernel_rfl) (fun _ _ _ h => h) (Or.inl ⟨by rfl, ?_⟩) (by assumption) ?_
              rotate_left
              · intro w hSw; (try dsimp only at hSw); go_simp; (try rw [if_neg (by omega)]); try with_reducible rfl
              try simp only [Act.put, List.setIfInBounds_toArray, List.set_cons_zero, List.set_cons_succ]
              refine takeD (i := 2) (oi := _) (v := ?_) (some 85) rfl rfl (by kernel_rfl) (by kernel_rfl) (by kernel_rfl) (fun _ _ _ h => h) (Or.inl ⟨by rfl, ?_⟩) (by assumption) ?_
              rotate_left
              · intro w hSw; (try dsimp only at hSw); go_simp; (try rw [if_neg (by omega)]); try with_reducible rfl
              try simp only [Act.put, List.setIfInBounds_toArray, List.set_cons_zero, List.set_cons_succ]
              refine takeD (i := 3) (oi := _) (v := ?_) (some 86) rfl rfl (by kernel_rfl) (by kernel_rfl) (by kernel_rfl) (fun _ _ _ h => h) (Or.inl ⟨by rfl, ?_⟩) (by assumption) ?_
              rotate_left
              · intro w hSw; (try dsimp only at hSw); go_simp; (try rw [if_neg (by omega)]); try with_reducible rfl
              try simp only [Act.put, List.setIfInBounds_toArray, List.set_cons_zero, List.set_cons_succ]
              refine takeD (i := 4) (oi := _) (v := ?_) (some 87) rfl rfl (by kernel_rfl) (by kernel_rfl) (by kernel_rfl) (fun _ _ _ h => h) (Or.inl ⟨by rfl, ?_⟩) (by assumption) ?_
              rotate_left
              · intro w hSw; (try dsimp only at hSw); go_simp; (try rw [if_neg (by omega)]); try with_reducible rfl
              try simp only [Act.put, List.setIfInBounds_toArray, List.set_cons_zero, List.set_cons_succ]
              refine takeD (i := 5) (oi := _) (v := ?_) (some 88) rfl rfl (by kernel_rfl) (by kernel_rfl) (by kernel_rfl) (fun _ _ _ h => h) (Or.inl ⟨by rfl, ?_⟩) (by assumption) ?_
              rotate_left
              · intro w hSw; (try dsimp only at hSw); go_simp; (try rw [if_neg (by omega)]); try with_reducible rfl
              try simp only [Act.put, List.setIfInBounds_toArray, List.set_cons_zero, List.set_cons_succ]
              refine takeD (i := 6) (oi := _) (v := ?_) (some 89) rfl rfl (by kernel_rfl) (by kernel_rfl) (by kernel_rfl) (fun _ _ _ h => h) (Or.inl ⟨by rfl, ?_⟩) (by assumption) ?_
              rotate_left
              · intro w hSw; (try dsimp only at hSw); go_simp; (try rw [if_neg (by omega)]); try with_reducible rfl
              try simp only [Act.put, List.setIfInBounds_toArray, List.set_cons_zero, List.set_cons_succ]
              refine takeD (i := 7) (oi := _) (v := ?_) (some 90) rfl rfl (by kernel_rfl) (by kernel_rfl) (by kernel_rfl) (fun _ _ _ h => h) (Or.inl ⟨by rfl, ?_⟩) (by assumption) ?_
              rotate_left
              · intro w hSw; (try dsimp only at hSw); go_simp; (try rw [if_neg (by omega)]); try with_reducible rfl
              try simp only [Act.put, List.setIfInBounds_toArray, List.set_cons_zero, List.set_cons_succ]
              refine takeD (i := 8) (oi := _) (v := ?_) (some 91) rfl rfl (by kernel_rfl) (by kernel_rfl) (by kernel_rfl) (fun _ _ _ h => h) (Or.inl ⟨by rfl, ?_⟩) (by assumption) ?_
              rotate_left
              · intro w hSw; (try dsimp only at hSw); go_simp; (try rw [if_neg (by omega)]); try with_reducible rfl
              try simp only [Act.put, List.setIfInBounds_toArray, List.set_cons_zero, List.set_cons_succ]
              refine takeD (i := 9) (oi := _) (v := ?_) (some 92) rfl rfl (by kernel_rfl) (by kernel_rfl) (by kernel_rfl) (fun _ _ _ h => h) (Or.inl ⟨by rfl, ?_⟩) (by assumption) ?_
              rotate_left
              · intro w hSw; (try dsimp only at hSw); go_simp; (try rw [if_neg (by omega)]); try with_reducible rfl
              try simp only [Act.put, List.setIfInBounds_toArray, List.set_cons_zero, List.set_cons_succ]
              refine takeD (i := 10) (oi := _) (v := ?_) (some 93) rfl rfl (by kernel_rfl) (by kernel_rfl) (by kernel_rfl) (fun _ _ _ h => h) (Or.inl ⟨by rfl, ?_⟩) (by assumption) ?_
              rotate_left
              · intro w hSw; (try dsimp only at hSw); go_simp; (try rw [if_neg (by omega)]); try with_reducible rfl
              try simp only [Act.put, List.setIfInBounds_toArray, List.set_cons_zero, List.set_cons_succ]
              refine takeD (i := 11) (oi := _) (v := ?_) (some 94) rfl rfl (by kernel_rfl) (by kernel_rfl) (by kernel_rfl) (fun _ _ _ h => h) (Or.inl ⟨by rfl, ?_⟩) (by assumption) ?_
              rotate_left
              · intro w hSw; (try dsimp only at hSw); go_simp; (try rw [if_neg (by omega)]); try with_reducible rfl
              try simp only [Act.put, List.setIfInBounds_toArray, List.set_cons_zero, List.set_cons_succ]
              refine takeD (i := 12) (oi := _) (v := ?_) (some 95) rfl rfl (by kernel_rfl) (by kernel_rfl) (by kernel_rfl) (fun _ _ _ h => h) (Or.inl ⟨by rfl, ?_⟩) (by assumption) ?_
              rotate_left
              · intro w hSw; (try dsimp only at hSw); go_simp; (try rw [if_neg (by omega)]); try with_reducible rfl
              try simp only [Act.put, List.setIfInBounds_toArray, List.set_cons_zero, List.set_cons_succ]
              refine takeD (i := 13) (oi := _) (v := ?_) (some 96) rfl rfl (by kernel_rfl) (by kernel_rfl) (by kernel_rfl) (fun _ _ _ h => h) (Or.inl ⟨by rfl, ?_⟩) (by assumption) ?_
              rotate_left
              · intro w hSw; (try dsimp only at hSw); go_simp; (try rw [if_neg (by omega)]); try with_reducible rfl
              try simp only [Act.put, List.setIfInBounds_toArray, List.set_cons_zero, List.set_cons_succ]
              refine wpAnyH_ready (rs := [14]) (by kernel_rfl) (by simp) ?_
              refine AllReadyH.cons (o := _) rfl (fun K hK => ?_) AllReadyH.nil
              go_simp
              refine (implOwnUse_any _ _ _ l _ rfl hln _ ((HX.out.below hbB).below (heldL6 hHeld))).mono ?_
              rintro e w3 ⟨rfl, hb3⟩
              go_wp2_with fail
              refine hK.out _ _ (heldC6 hHeld hb3 (Nat.le_refl _) hxbwB hxbwB hxbwB hlbwB hlbwB hlbwB) (fun hHeld => ?_)
              clear hK K
              try simp only [Act.put, List.setIfInBounds_toArray, List.set_cons_zero, List.set_cons_succ]
              refine takeD (i := 15) (oi := _) (v := ?_) (some 98) rfl rfl (by kernel_rfl) (by kernel_rfl) (by kernel_rfl) (fun _ _ _ h => h) (Or.inl ⟨by rfl, ?_⟩) (by assumption) ?_
              rotate_left
              · intro w hSw; (try dsimp only at hSw); go_simp; (try rw [if_neg (by omega)]); try with_reducible rfl
              try simp only [Act.put, List.setIfInBounds_toArray, List.set_cons_zero, List.set_cons_succ]
              refine takeD (i := 16) (oi := _) (v := ?_) (some 99) rfl rfl (by kernel_rfl) (by kernel_rfl) (by kernel_rfl) (fun _ _ _ h => h) (Or.inl ⟨by rfl, ?_⟩) (by assumption) ?_
              rotate_left
              · intro w hSw; (try dsimp only at hSw); go_simp; (try rw [if_neg (by omega)]); try with_reducible rfl
              try simp only [Act.put, List.setIfInBounds_toArray, List.set_cons_zero, List.set_cons_succ]
              refine takeD (i := 17) (oi := _) (v := ?_) (some 100) rfl rfl (by kernel_rfl) (by kernel_rfl) (by kernel_rfl) (fun _ _ _ h => h) (Or.inl ⟨by rfl, ?_⟩) (by assumption) ?_
              rotate_left
              · intro w hSw; (try dsimp only at hSw); go_simp; (try rw [if_neg (by omega)]); try with_reducible rfl
              try simp only [Act.put, List.setIfInBounds_toArray, List.set_cons_zero, List.set_cons_succ]
              refine takeD (i := 18) (oi := _) (v := ?_) (some 101) rfl rfl (by kernel_rfl) (by kernel_rfl) (by kernel_rfl) (fun _ _ _ h => h) (Or.inl ⟨by rfl, ?_⟩) (by assumption) ?_
              rotate_left
              · intro w hSw; (try dsimp only at hSw); go_simp; (try rw [if_neg (by omega)]); try with_reducible rfl
              try simp only [Act.put, List.setIfInBounds_toArray, List.set_cons_zero, List.set_cons_succ]
              refine takeD (i := 19) (oi := _) (v := ?_) (some 102) rfl rfl (by kernel_rfl) (by kernel_rfl) (by kernel_rfl) (fun _ _ _ h => h) (Or.inl ⟨by rfl, ?_⟩) (by assumption) ?_
              rotate_left
              · intro w hSw; (try dsimp only at hSw); go_simp; (try rw [if_neg (by omega)]); try with_reducible rfl
              try simp only [Act.put, List.setIfInBounds_toArray, List.set_cons_zero, List.set_cons_succ]
              refine takeD (i := 20) (oi := _) (v := ?_) (some 103) rfl rfl (by kernel_rfl) (by kernel_rfl) (by kernel_rfl) (fun _ _ _ h => h) (Or.inl ⟨by rfl, ?_⟩) (by assumption) ?_
              rotate_left
              · intro w hSw; (try dsimp only at hSw); go_simp; (try rw [if_neg (by omega)]); try with_reducible rfl
              try simp only [Act.put, List.setIfInBounds_toArray, List.set_cons_zero, List.set_cons_succ]
              refine takeD (i := 21) (oi := _) (v := ?_) (some 104) rfl rfl (by kernel_rfl) (by kernel_rfl) (by kernel_rfl) (fun _ _ _ h => h) (Or.inl ⟨by rfl, ?_⟩) (by assumption) ?_
              rotate_left
              · intro w hSw; (try dsimp only at hSw); go_simp; (try rw [if_neg (by omega)]); try with_reducible rfl
              try simp only [Act.put, List.setIfInBounds_toArray, List.set_cons_zero, List.set_cons_succ]
              refine takeD (i := 22) (oi := _) (v := ?_) (some 105) rfl rfl (by kernel_rfl) (by kernel_rfl) (by kernel_rfl) (fun _ _ _ h => h) (Or.inl ⟨by rfl, ?_⟩) (by assumption) ?_
              rotate_left
              · intro w hSw; (try dsimp only at hSw); go_simp; (try rw [if_neg (by omega)]); try with_reducible rfl
              try simp only [Act.put, List.setIfInBounds_toArray, List.set_cons_zero, List.set_cons_succ]
              refine takeD (i := 23) (oi := _) (v := ?_) (some 106) rfl rfl (by kernel_rfl) (by kernel_rfl) (by kernel_rfl) (fun _ _ _ h => h) (Or.inl ⟨by rfl, ?_⟩) (by assumption) ?_
              rotate_left
              · intro w hSw; (try dsimp only at hSw); go_simp; (try rw [if_neg (by omega)]); try with_reducible rfl
              try simp only [Act.put, List.setIfInBounds_toArray, List.set_cons_zero, List.set_cons_succ]
              refine takeD (i := 24) (oi := _) (v := ?_) (some 107) rfl rfl (by kernel_rfl) (by kernel_rfl) (by kernel_rfl) (fun _ _ _ h => h) (Or.inl ⟨by rfl, ?_⟩) (by assumption) ?_
              rotate_left
              · intro w hSw; (try dsimp only at hSw); go_simp; (try rw [if_neg (by omega)]); try with_reducible rfl
              try simp only [Act.put, List.setIfInBounds_toArray, List.set_cons_zero, List.set_cons_succ]
              refine takeD (i := 25) (oi := _) (v := ?_) (some 108) rfl rfl (by kernel_rfl) (by kernel_rfl) (by kernel_rfl) (fun _ _ _ h => h) (Or.inl ⟨by rfl, ?_⟩) (by assumption) ?_
              rotate_left
              · intro w hSw; (try dsimp only at hSw); go_simp; (try rw [if_neg (by omega)]); try with_reducible rfl
              try simp only [Act.put, List.setIfInBounds_toArray, List.set_cons_zero, List.set_cons_succ]
              refine takeD (i := 26) (oi := _) (v := ?_) (some 109) rfl rfl (by kernel_rfl) (by kernel_rfl) (by kernel_rfl) (fun _ _ _ h => h) (Or.inl ⟨by rfl, ?_⟩) (by assumption) ?_
              rotate_left
              · intro w hSw; (try dsimp only at hSw); go_simp; (try rw [if_neg (by omega)]); try with_reducible rfl
              try simp only [Act.put, List.setIfInBounds_toArray, List.set_cons_zero, List.set_cons_succ]
              refine takeD (i := 27) (oi := _) (v := ?_) (some 110) rfl rfl (by kernel_rfl) (by kernel_rfl) (by kernel_rfl) (fun _ _ _ h => h) (Or.inl ⟨by rfl, ?_⟩) (by assumption) ?_
              rotate_left
              · intro w hSw; (try dsimp only at hSw); go_simp; (try rw [if_neg (by omega)]); try with_reducible rfl
              try simp only [Act.put, List.setIfInBounds_toArray, List.set_cons_zero, List.set_cons_succ]
              refine takeD (i := 28) (oi := _) (v := ?_) (some 111) rfl rfl (by kernel_rfl) (by kernel_rfl) (by kernel_rfl) (fun _ _ _ h => h) (Or.inl ⟨by rfl, ?_⟩) (by assumption) ?_
              rotate_left
              · intro w hSw; (try dsimp only at hSw); go_simp; (try rw [if_neg (by omega)]); try with_reducible rfl
              try simp only [Act.put, List.setIfInBounds_toArray, List.set_cons_zero, List.set_cons_succ]
              refine takeD (i := 29) (oi := _) (v := ?_) (some 112) rfl rfl (by kernel_rfl) (by kernel_rfl) (by kernel_rfl) (fun _ _ _ h => h) (Or.inl ⟨by rfl, ?_⟩) (by assumption) ?_
              rotate_left
              · intro w hSw; (try dsimp only at hSw); go_simp; (try rw [if_neg (by omega)]); try with_reducible rfl
              try simp only [Act.put, List.setIfInBounds_toArray, List.set_cons_zero, List.set_cons_succ]
              refine takeD (i := 30) (oi := _) (v := ?_) (some 113) rfl rfl (by kernel_rfl) (by kernel_rfl) (by kernel_rfl) (fun _ _ _ h => h) (Or.inl ⟨by rfl, ?_⟩) (by assumption) ?_
              rotate_left
              · intro w hSw; (try dsimp only at hSw); go_simp; (try rw [if_neg (by omega)]); try with_reducible rfl
              try simp only [Act.put, List.setIfInBounds_toArray, List.set_cons_zero, List.set_cons_succ]
              refine takeD (i := 31) (oi := _) (v := ?_) (some 114) rfl rfl (by kernel_rfl) (by kernel_rfl) (by kernel_rfl) (fun _ _ _ h => h) (Or.inl ⟨by rfl, ?_⟩) (by assumption) ?_
              rotate_left
              · intro w hSw; (try dsimp only at hSw); go_simp; (try rw [if_neg (by omega)]); try with_reducible rfl
              try simp only [Act.put, List.setIfInBounds_toArray, List.set_cons_zero, List.set_cons_succ]
              refine wpAnyH_done (by kernel_rfl) ?_ _
              have hbE := hbB.trans ((heldL6 hHeld).mono hbB.size)
              clear hHeld
              go_wp2
              go_roundg (gk - 1)
              case measure => omega
              case rel => exact ⟨k + 1, _, by omega, by omega, by go_num, rfl, by omega, by omega, HSA, hbE⟩
            · have hkl : k = l.length := by omega
              obtain ⟨y, hy⟩ := some_at (l := l) (k := 0) (by have := hk; omega)
              have hroot := ownSum_root HQ.out hy
              rw [← hkl, hsa.out] at hroot
              obtain ⟨xb, xo, hxa, hxbw, g1, g2, g3⟩ := (HX.out.below hb).rowNode hy
              subst hxa
              simp only [Nat.zero_mul, Nat.add_zero] at g1 g2 g3
              have hpos : 0 < l.length := by omega
              have hsr := Lib.hid hroot
              rw [hroot]
              clear hroot hsa ha0 ha1 hgk hk hlt hy
              go_wp2
              go_ret
              exact ⟨rfl, HB0.out.trans (((HBX.out).trans (hb.mono HBX.out.size)).mono HB0.out.size)⟩
        · have hmr : room l (k0 : Int) < m := by rw [inB_false] at hm; omega
          clear hm
          go_wp2_with fail
          refine (implRoom_any _ _ _ l _ rfl hln _ (HL.out.drewN _)).mono ?_
          rintro e w4 ⟨rfl, hb4⟩
          have hbx4 := (below_drewN (Below.refl Wx.heap.size Wx) nq).trans hb4
          go_wp2_with fail
          refine (specQuotaOk_any _ _ _ l rfl hln _ (HX.out.below hbx4)).mono ?_
          rintro e Wq ⟨rfl, nq2, rfl⟩
          rw [HQ.out]
          have hbx := below_drewN hbx4 nq2
          clear hb4 hbx4
          go_wp2
          go_loopg [8, 9] (l.length + 1) (fun gk sm iv wr => ∃ (k : Nat) (acc : Int), l.length < gk + k ∧ k ≤ l.length ∧ iv = .int .i64 k ∧ sm = .int .i64 acc ∧ 0 ≤ acc ∧ acc ≤ 1000000 * k ∧ Hid (ownSum l k = acc) ∧ Below Wx.heap.size Wx wr)
          case atStart => exact ⟨0, 0, by omega, by omega, rfl, rfl, by omega, by omega, hideP rfl, by first | exact hbx | exact below_drewN (Below.refl _ _) _⟩
          case round =>
            obtain ⟨k, acc, hgk, hk, rfl, rfl, ha0, ha1, hsa, hb⟩ := hrel
            by_cases hlt : k < l.length
            · obtain ⟨y, hy⟩ := some_at (l := l) (k := k) (by have := hk; omega)
              obtain ⟨xb, xo, hxa, hxbw, g1, g2, g3⟩ := (HX.out.below hb).rowNode hy
              obtain ⟨yu0, yu1, yl, yu2, yu3⟩ : 0 ≤ y.u ∧ y.u ≤ y.l ∧ y.l ≤ 1000000 ∧ 0 ≤ y.l ∧ y.u ≤ 1000000 := by have := node_up HNO.out hy; omega
              obtain ⟨ou0, ou1⟩ := ownUse_nonneg HQ.out hy
              have dg1 : decide (y.l < y.u) = false := by simp; omega
              have dg2 : decide (ownUse l (k : Int) < 0) = false := by simp; omega
              have HSA : Hid (ownSum l (k + 1) = acc + ownUse l (k : Int)) := hideP (by rw [ownSum, hsa.out])
              obtain ⟨lb, lo, hla, hlbw, k1, k2, k3⟩ := (HL.out.below hb).rowNode (show l[k]? = some y from hy)
              have hla' := Lib.hid hla
              clear hla
              subst hxa
              have hla'' := hla'.out; subst hla''
              clear hy
              go_wp2_with fail
              refine (implOwnUse_any _ _ _ l _ rfl hln _ (HX.out.below hb)).mono ?_
              rintro e WB ⟨rfl, hb2⟩
              have hbB := hb.trans (hb2.mono hb.size)
              have hz := hb2.size
              have wg1 := (hb2.cell (p := ⟨xb, xo + k * 3, none⟩) hxbw).trans g1
              have wg2 := (hb2.cell (p := ⟨xb, xo + k * 3 + 1, none⟩) hxbw).trans g2
              have wg3 := (hb2.cell (p := ⟨xb, xo + k * 3 + 2, none⟩) hxbw).trans g3
              have wk1 := (hb2.cell (p := ⟨lb, lo + k * 3, none⟩) hlbw).trans k1
              have wk2 := (hb2.cell (p := ⟨lb, lo + k * 3 + 1, none⟩) hlbw).trans k2
              have wk3 := (hb2.cell (p := ⟨lb, lo + k * 3 + 2, none⟩) hlbw).trans k3
              go_wp2
              have hxbwB : xb < WB.heap.size := Nat.lt_of_lt_of_le hxbw hz
              have hlbwB : lb < WB.heap.size := Nat.lt_of_lt_of_le hlbw hz
              refine wp_region_held_drew (S := fun w' => w'.cell? ⟨xb, xo + k * 3, none⟩ = some (.int .i64 y.p) ∧ w'.cell? ⟨xb, xo + k * 3 + 1, none⟩ = some (.int .i64 y.l) ∧ w'.cell? ⟨xb, xo + k * 3 + 2, none⟩ = some (.int .i64 y.u) ∧ w'.cell? ⟨lb, lo + k * 3, none⟩ = some (.int .i64 y.p) ∧ w'.cell? ⟨lb, lo + k * 3 + 1, none⟩ = some (.int .i64 y.l) ∧ w'.cell? ⟨lb, lo + k * 3 + 2, none⟩ = some (.int .i64 y.u) ∧ Below WB.heap.size WB w') (by kernel_rfl) (held06 wg1 wg2 wg3 wk1 wk2 wk3) (fun hHeld => ?_)
              refine takeD (i := 0) (oi := _) (v := ?_) (some 83) rfl rfl (by kernel_rfl) (by kernel_rfl) (by kernel_rfl) (fun _ _ _ h => h) (Or.inl ⟨by rfl, ?_⟩) (by assumption) ?_
              rotate_left
              · intro w hSw; (try dsimp only at hSw); go_simp; (try rw [if_neg (by omega)]); try with_reducible rfl
              try simp only [Act.put, List.setIfInBounds_toArray, List.set_cons_zero, List.set_cons_succ]
              refine takeD (i := 1) (oi := _) (v := ?_) (some 84) rfl rfl (by kernel_rfl) (by kernel_rfl) (by kernel_rfl) (fun _ _ _ h => h) (Or.inl ⟨by rfl, ?_⟩) (by assumption) ?_
              rotate_left
              · intro w hSw; (try dsimp only at hSw); go_simp; (try rw [if_neg (by omega)]); try with_reducible rfl
              try simp only [Act.put, List.setIfInBounds_toArray, List.set_cons_zero, List.set_cons_succ]
              refine takeD (i := 2) (oi := _) (v := ?_) (some 85) rfl rfl (by kernel_rfl) (by kernel_rfl) (by kernel_rfl) (fun _ _ _ h => h) (Or.inl ⟨by rfl, ?_⟩) (by assumption) ?_
              rotate_left
              · intro w hSw; (try dsimp only at hSw); go_simp; (try rw [if_neg (by omega)]); try with_reducible rfl
              try simp only [Act.put, List.setIfInBounds_toArray, List.set_cons_zero, List.set_cons_succ]
              refine takeD (i := 3) (oi := _) (v := ?_) (some 86) rfl rfl (by kernel_rfl) (by kernel_rfl) (by kernel_rfl) (fun _ _ _ h => h) (Or.inl ⟨by rfl, ?_⟩) (by assumption) ?_
              rotate_left
              · intro w hSw; (try dsimp only at hSw); go_simp; (try rw [if_neg (by omega)]); try with_reducible rfl
              try simp only [Act.put, List.setIfInBounds_toArray, List.set_cons_zero, List.set_cons_succ]
              refine takeD (i := 4) (oi := _) (v := ?_) (some 87) rfl rfl (by kernel_rfl) (by kernel_rfl) (by kernel_rfl) (fun _ _ _ h => h) (Or.inl ⟨by rfl, ?_⟩) (by assumption) ?_
              rotate_left
              · intro w hSw; (try dsimp only at hSw); go_simp; (try rw [if_neg (by omega)]); try with_reducible rfl
              try simp only [Act.put, List.setIfInBounds_toArray, List.set_cons_zero, List.set_cons_succ]
              refine takeD (i := 5) (oi := _) (v := ?_) (some 88) rfl rfl (by kernel_rfl) (by kernel_rfl) (by kernel_rfl) (fun _ _ _ h => h) (Or.inl ⟨by rfl, ?_⟩) (by assumption) ?_
              rotate_left
              · intro w hSw; (try dsimp only at hSw); go_simp; (try rw [if_neg (by omega)]); try with_reducible rfl
              try simp only [Act.put, List.setIfInBounds_toArray, List.set_cons_zero, List.set_cons_succ]
              refine takeD (i := 6) (oi := _) (v := ?_) (some 89) rfl rfl (by kernel_rfl) (by kernel_rfl) (by kernel_rfl) (fun _ _ _ h => h) (Or.inl ⟨by rfl, ?_⟩) (by assumption) ?_
              rotate_left
              · intro w hSw; (try dsimp only at hSw); go_simp; (try rw [if_neg (by omega)]); try with_reducible rfl
              try simp only [Act.put, List.setIfInBounds_toArray, List.set_cons_zero, List.set_cons_succ]
              refine takeD (i := 7) (oi := _) (v := ?_) (some 90) rfl rfl (by kernel_rfl) (by kernel_rfl) (by kernel_rfl) (fun _ _ _ h => h) (Or.inl ⟨by rfl, ?_⟩) (by assumption) ?_
              rotate_left
              · intro w hSw; (try dsimp only at hSw); go_simp; (try rw [if_neg (by omega)]); try with_reducible rfl
              try simp only [Act.put, List.setIfInBounds_toArray, List.set_cons_zero, List.set_cons_succ]
              refine takeD (i := 8) (oi := _) (v := ?_) (some 91) rfl rfl (by kernel_rfl) (by kernel_rfl) (by kernel_rfl) (fun _ _ _ h => h) (Or.inl ⟨by rfl, ?_⟩) (by assumption) ?_
              rotate_left
              · intro w hSw; (try dsimp only at hSw); go_simp; (try rw [if_neg (by omega)]); try with_reducible rfl
              try simp only [Act.put, List.setIfInBounds_toArray, List.set_cons_zero, List.set_cons_succ]
              refine takeD (i := 9) (oi := _) (v := ?_) (some 92) rfl rfl (by kernel_rfl) (by kernel_rfl) (by kernel_rfl) (fun _ _ _ h => h) (Or.inl ⟨by rfl, ?_⟩) (by assumption) ?_
              rotate_left
              · intro w hSw; (try dsimp only at hSw); go_simp; (try rw [if_neg (by omega)]); try with_reducible rfl
              try simp only [Act.put, List.setIfInBounds_toArray, List.set_cons_zero, List.set_cons_succ]
              refine takeD (i := 10) (oi := _) (v := ?_) (some 93) rfl rfl (by kernel_rfl) (by kernel_rfl) (by kernel_rfl) (fun _ _ _ h => h) (Or.inl ⟨by rfl, ?_⟩) (by assumption) ?_
              rotate_left
              · intro w hSw; (try dsimp only at hSw); go_simp; (try rw [if_neg (by omega)]); try with_reducible rfl
              try simp only [Act.put, List.setIfInBounds_toArray, List.set_cons_zero, List.set_cons_succ]
              refine takeD (i := 11) (oi := _) (v := ?_) (some 94) rfl rfl (by kernel_rfl) (by kernel_rfl) (by kernel_rfl) (fun _ _ _ h => h) (Or.inl ⟨by rfl, ?_⟩) (by assumption) ?_
              rotate_left
              · intro w hSw; (try dsimp only at hSw); go_simp; (try rw [if_neg (by omega)]); try with_reducible rfl
              try simp only [Act.put, List.setIfInBounds_toArray, List.set_cons_zero, List.set_cons_succ]
              refine takeD (i := 12) (oi := _) (v := ?_) (some 95) rfl rfl (by kernel_rfl) (by kernel_rfl) (by kernel_rfl) (fun _ _ _ h => h) (Or.inl ⟨by rfl, ?_⟩) (by assumption) ?_
              rotate_left
              · intro w hSw; (try dsimp only at hSw); go_simp; (try rw [if_neg (by omega)]); try with_reducible rfl
              try simp only [Act.put, List.setIfInBounds_toArray, List.set_cons_zero, List.set_cons_succ]
              refine takeD (i := 13) (oi := _) (v := ?_) (some 96) rfl rfl (by kernel_rfl) (by kernel_rfl) (by kernel_rfl) (fun _ _ _ h => h) (Or.inl ⟨by rfl, ?_⟩) (by assumption) ?_
              rotate_left
              · intro w hSw; (try dsimp only at hSw); go_simp; (try rw [if_neg (by omega)]); try with_reducible rfl
              try simp only [Act.put, List.setIfInBounds_toArray, List.set_cons_zero, List.set_cons_succ]
              refine wpAnyH_ready (rs := [14]) (by kernel_rfl) (by simp) ?_
              refine AllReadyH.cons (o := _) rfl (fun K hK => ?_) AllReadyH.nil
              go_simp
              refine (implOwnUse_any _ _ _ l _ rfl hln _ ((HX.out.below hbB).below (heldL6 hHeld))).mono ?_
              rintro e w3 ⟨rfl, hb3⟩
              go_wp2_with fail
              refine hK.out _ _ (heldC6 hHeld hb3 (Nat.le_refl _) hxbwB hxbwB hxbwB hlbwB hlbwB hlbwB) (fun hHeld => ?_)
              clear hK K
              try simp only [Act.put, List.setIfInBounds_toArray, List.set_cons_zero, List.set_cons_succ]
              refine takeD (i := 15) (oi := _) (v := ?_) (some 98) rfl rfl (by kernel_rfl) (by kernel_rfl) (by kernel_rfl) (fun _ _ _ h => h) (Or.inl ⟨by rfl, ?_⟩) (by assumption) ?_
              rotate_left
              · intro w hSw; (try dsimp only at hSw); go_simp; (try rw [if_neg (by omega)]); try with_reducible rfl
              try simp only [Act.put, List.setIfInBounds_toArray, List.set_cons_zero, List.set_cons_succ]
              refine takeD (i := 16) (oi := _) (v := ?_) (some 99) rfl rfl (by kernel_rfl) (by kernel_rfl) (by kernel_rfl) (fun _ _ _ h => h) (Or.inl ⟨by rfl, ?_⟩) (by assumption) ?_
              rotate_left
              · intro w hSw; (try dsimp only at hSw); go_simp; (try rw [if_neg (by omega)]); try with_reducible rfl
              try simp only [Act.put, List.setIfInBounds_toArray, List.set_cons_zero, List.set_cons_succ]
              refine takeD (i := 17) (oi := _) (v := ?_) (some 100) rfl rfl (by kernel_rfl) (by kernel_rfl) (by kernel_rfl) (fun _ _ _ h => h) (Or.inl ⟨by rfl, ?_⟩) (by assumption) ?_
              rotate_left
              · intro w hSw; (try dsimp only at hSw); go_simp; (try rw [if_neg (by omega)]); try with_reducible rfl
              try simp only [Act.put, List.setIfInBounds_toArray, List.set_cons_zero, List.set_cons_succ]
              refine takeD (i := 18) (oi := _) (v := ?_) (some 101) rfl rfl (by kernel_rfl) (by kernel_rfl) (by kernel_rfl) (fun _ _ _ h => h) (Or.inl ⟨by rfl, ?_⟩) (by assumption) ?_
              rotate_left
              · intro w hSw; (try dsimp only at hSw); go_simp; (try rw [if_neg (by omega)]); try with_reducible rfl
              try simp only [Act.put, List.setIfInBounds_toArray, List.set_cons_zero, List.set_cons_succ]
              refine takeD (i := 19) (oi := _) (v := ?_) (some 102) rfl rfl (by kernel_rfl) (by kernel_rfl) (by kernel_rfl) (fun _ _ _ h => h) (Or.inl ⟨by rfl, ?_⟩) (by assumption) ?_
              rotate_left
              · intro w hSw; (try dsimp only at hSw); go_simp; (try rw [if_neg (by omega)]); try with_reducible rfl
              try simp only [Act.put, List.setIfInBounds_toArray, List.set_cons_zero, List.set_cons_succ]
              refine takeD (i := 20) (oi := _) (v := ?_) (some 103) rfl rfl (by kernel_rfl) (by kernel_rfl) (by kernel_rfl) (fun _ _ _ h => h) (Or.inl ⟨by rfl, ?_⟩) (by assumption) ?_
              rotate_left
              · intro w hSw; (try dsimp only at hSw); go_simp; (try rw [if_neg (by omega)]); try with_reducible rfl
              try simp only [Act.put, List.setIfInBounds_toArray, List.set_cons_zero, List.set_cons_succ]
              refine takeD (i := 21) (oi := _) (v := ?_) (some 104) rfl rfl (by kernel_rfl) (by kernel_rfl) (by kernel_rfl) (fun _ _ _ h => h) (Or.inl ⟨by rfl, ?_⟩) (by assumption) ?_
              rotate_left
              · intro w hSw; (try dsimp only at hSw); go_simp; (try rw [if_neg (by omega)]); try with_reducible rfl
              try simp only [Act.put, List.setIfInBounds_toArray, List.set_cons_zero, List.set_cons_succ]
              refine takeD (i := 22) (oi := _) (v := ?_) (some 105) rfl rfl (by kernel_rfl) (by kernel_rfl) (by kernel_rfl) (fun _ _ _ h => h) (Or.inl ⟨by rfl, ?_⟩) (by assumption) ?_
              rotate_left
              · intro w hSw; (try dsimp only at hSw); go_simp; (try rw [if_neg (by omega)]); try with_reducible rfl
              try simp only [Act.put, List.setIfInBounds_toArray, List.set_cons_zero, List.set_cons_succ]
              refine takeD (i := 23) (oi := _) (v := ?_) (some 106) rfl rfl (by kernel_rfl) (by kernel_rfl) (by kernel_rfl) (fun _ _ _ h => h) (Or.inl ⟨by rfl, ?_⟩) (by assumption) ?_
              rotate_left
              · intro w hSw; (try dsimp only at hSw); go_simp; (try rw [if_neg (by omega)]); try with_reducible rfl
              try simp only [Act.put, List.setIfInBounds_toArray, List.set_cons_zero, List.set_cons_succ]
              refine takeD (i := 24) (oi := _) (v := ?_) (some 107) rfl rfl (by kernel_rfl) (by kernel_rfl) (by kernel_rfl) (fun _ _ _ h => h) (Or.inl ⟨by rfl, ?_⟩) (by assumption) ?_
              rotate_left
              · intro w hSw; (try dsimp only at hSw); go_simp; (try rw [if_neg (by omega)]); try with_reducible rfl
              try simp only [Act.put, List.setIfInBounds_toArray, List.set_cons_zero, List.set_cons_succ]
              refine takeD (i := 25) (oi := _) (v := ?_) (some 108) rfl rfl (by kernel_rfl) (by kernel_rfl) (by kernel_rfl) (fun _ _ _ h => h) (Or.inl ⟨by rfl, ?_⟩) (by assumption) ?_
              rotate_left
              · intro w hSw; (try dsimp only at hSw); go_simp; (try rw [if_neg (by omega)]); try with_reducible rfl
              try simp only [Act.put, List.setIfInBounds_toArray, List.set_cons_zero, List.set_cons_succ]
              refine takeD (i := 26) (oi := _) (v := ?_) (some 109) rfl rfl (by kernel_rfl) (by kernel_rfl) (by kernel_rfl) (fun _ _ _ h => h) (Or.inl ⟨by rfl, ?_⟩) (by assumption) ?_
              rotate_left
              · intro w hSw; (try dsimp only at hSw); go_simp; (try rw [if_neg (by omega)]); try with_reducible rfl
              try simp only [Act.put, List.setIfInBounds_toArray, List.set_cons_zero, List.set_cons_succ]
              refine takeD (i := 27) (oi := _) (v := ?_) (some 110) rfl rfl (by kernel_rfl) (by kernel_rfl) (by kernel_rfl) (fun _ _ _ h => h) (Or.inl ⟨by rfl, ?_⟩) (by assumption) ?_
              rotate_left
              · intro w hSw; (try dsimp only at hSw); go_simp; (try rw [if_neg (by omega)]); try with_reducible rfl
              try simp only [Act.put, List.setIfInBounds_toArray, List.set_cons_zero, List.set_cons_succ]
              refine takeD (i := 28) (oi := _) (v := ?_) (some 111) rfl rfl (by kernel_rfl) (by kernel_rfl) (by kernel_rfl) (fun _ _ _ h => h) (Or.inl ⟨by rfl, ?_⟩) (by assumption) ?_
              rotate_left
              · intro w hSw; (try dsimp only at hSw); go_simp; (try rw [if_neg (by omega)]); try with_reducible rfl
              try simp only [Act.put, List.setIfInBounds_toArray, List.set_cons_zero, List.set_cons_succ]
              refine takeD (i := 29) (oi := _) (v := ?_) (some 112) rfl rfl (by kernel_rfl) (by kernel_rfl) (by kernel_rfl) (fun _ _ _ h => h) (Or.inl ⟨by rfl, ?_⟩) (by assumption) ?_
              rotate_left
              · intro w hSw; (try dsimp only at hSw); go_simp; (try rw [if_neg (by omega)]); try with_reducible rfl
              try simp only [Act.put, List.setIfInBounds_toArray, List.set_cons_zero, List.set_cons_succ]
              refine takeD (i := 30) (oi := _) (v := ?_) (some 113) rfl rfl (by kernel_rfl) (by kernel_rfl) (by kernel_rfl) (fun _ _ _ h => h) (Or.inl ⟨by rfl, ?_⟩) (by assumption) ?_
              rotate_left
              · intro w hSw; (try dsimp only at hSw); go_simp; (try rw [if_neg (by omega)]); try with_reducible rfl
              try simp only [Act.put, List.setIfInBounds_toArray, List.set_cons_zero, List.set_cons_succ]
              refine takeD (i := 31) (oi := _) (v := ?_) (some 114) rfl rfl (by kernel_rfl) (by kernel_rfl) (by kernel_rfl) (fun _ _ _ h => h) (Or.inl ⟨by rfl, ?_⟩) (by assumption) ?_
              rotate_left
              · intro w hSw; (try dsimp only at hSw); go_simp; (try rw [if_neg (by omega)]); try with_reducible rfl
              try simp only [Act.put, List.setIfInBounds_toArray, List.set_cons_zero, List.set_cons_succ]
              refine wpAnyH_done (by kernel_rfl) ?_ _
              have hbE := hbB.trans ((heldL6 hHeld).mono hbB.size)
              clear hHeld
              go_wp2
              go_roundg (gk - 1)
              case measure => omega
              case rel => exact ⟨k + 1, _, by omega, by omega, by go_num, rfl, by omega, by omega, HSA, hbE⟩
            · have hkl : k = l.length := by omega
              obtain ⟨y, hy⟩ := some_at (l := l) (k := 0) (by have := hk; omega)
              have hroot := ownSum_root HQ.out hy
              rw [← hkl, hsa.out] at hroot
              obtain ⟨xb, xo, hxa, hxbw, g1, g2, g3⟩ := (HX.out.below hb).rowNode hy
              subst hxa
              simp only [Nat.zero_mul, Nat.add_zero] at g1 g2 g3
              have hpos : 0 < l.length := by omega
              have hsr := Lib.hid hroot
              rw [hroot]
              clear hroot hsa ha0 ha1 hgk hk hlt hy
              go_wp2
              go_ret
              exact ⟨rfl, HB0.out.trans (((HBX.out).trans (hb.mono HBX.out.size)).mono HB0.out.size)⟩
      · have Hc := Lib.hid (charge_yes hh hm)
        have hmr := inB_true.1 hm
        obtain ⟨hm0, hm1⟩ := hmr
        have hrl := room_le hh
        rw [Hc.out] at HX0 ⊢
        have HX : Hid (Rd Wx xa ((charged l (k0 : Int) m).flatMap Node.enc)) := HX0
        have HXN : Hid (l.length = (charged l (k0 : Int) m).length) := hideP (charged_len _ _ _).symm
        have HQ := Lib.hid (charged_ok hh hm)
        have HNO := Lib.hid (quotaOk_nodes HQ.out)
        have HOW := Lib.hid (charged_own hh hm hx0).2
        have HRF := Lib.hid (refund_back hh hm hx0)
        have hou := ownUse_nonneg hq hx0
        obtain ⟨hou0, hou1⟩ := hou
        have sm1 : IntKind.i64.wrap (ownUse l (k0 : Int) + m) = ownUse l (k0 : Int) + m := IntWalk.i64_in _ (by omega)
        clear HX0 hh hx0 hm
        go_wp2_with fail
        refine (specQuotaOk_any _ _ _ l rfl hln _ HL.out).mono ?_
        rintro e Wq ⟨rfl, nq, rfl⟩
        rw [HQ0.out]
        go_wp2_with fail
        refine (implRoom_any _ _ _ l _ rfl hln _ (HL.out.drewN _)).mono ?_
        rintro e w4 ⟨rfl, hb4⟩
        have hbx4 := (below_drewN (Below.refl Wx.heap.size Wx) nq).trans hb4
        go_wp2_with fail
        refine (specQuotaOk_any _ _ _ (charged l (k0 : Int) m) HXN.out hln _ (HX.out.below hbx4)).mono ?_
        rintro e Wq ⟨rfl, nq2, rfl⟩
        rw [HQ.out]
        have hbx := below_drewN hbx4 nq2
        clear hb4 hbx4
        go_wp2
        go_loopg [8, 9] (l.length + 1) (fun gk sm iv wr => ∃ (k : Nat) (acc : Int), l.length < gk + k ∧ k ≤ l.length ∧ iv = .int .i64 k ∧ sm = .int .i64 acc ∧ 0 ≤ acc ∧ acc ≤ 1000000 * k ∧ Hid (ownSum (charged l (k0 : Int) m) k = acc) ∧ Below Wx.heap.size Wx wr)
        case atStart => exact ⟨0, 0, by omega, by omega, rfl, rfl, by omega, by omega, hideP rfl, by first | exact hbx | exact below_drewN (Below.refl _ _) _⟩
        case round =>
          obtain ⟨k, acc, hgk, hk, rfl, rfl, ha0, ha1, hsa, hb⟩ := hrel
          by_cases hlt : k < l.length
          · obtain ⟨y, hy⟩ := some_at (l := (charged l (k0 : Int) m)) (k := k) (by have := HXN.out; omega)
            obtain ⟨xb, xo, hxa, hxbw, g1, g2, g3⟩ := (HX.out.below hb).rowNode hy
            obtain ⟨yu0, yu1, yl, yu2, yu3⟩ : 0 ≤ y.u ∧ y.u ≤ y.l ∧ y.l ≤ 1000000 ∧ 0 ≤ y.l ∧ y.u ≤ 1000000 := by have := node_up HNO.out hy; omega
            obtain ⟨ou0, ou1⟩ := ownUse_nonneg HQ.out hy
            have dg1 : decide (y.l < y.u) = false := by simp; omega
            have dg2 : decide (ownUse (charged l (k0 : Int) m) (k : Int) < 0) = false := by simp; omega
            have HSA : Hid (ownSum (charged l (k0 : Int) m) (k + 1) = acc + ownUse (charged l (k0 : Int) m) (k : Int)) := hideP (by rw [ownSum, hsa.out])
            subst hxa
            
            clear hy
            go_wp2_with fail
            refine (implOwnUse_any _ _ _ (charged l (k0 : Int) m) _ HXN.out hln _ (HX.out.below hb)).mono ?_
            rintro e WB ⟨rfl, hb2⟩
            have hbB := hb.trans (hb2.mono hb.size)
            have hz := hb2.size
            have wg3 := (hb2.cell (p := ⟨xb, xo + k * 3 + 2, none⟩) hxbw).trans g3
            have wg2 := (hb2.cell (p := ⟨xb, xo + k * 3 + 1, none⟩) hxbw).trans g2
            go_wp2
            have hxbwB : xb < WB.heap.size := Nat.lt_of_lt_of_le hxbw hz
            refine wp_region_held_drew (S := fun w' => w'.cell? ⟨xb, xo + k * 3 + 2, none⟩ = some (.int .i64 y.u) ∧ w'.cell? ⟨xb, xo + k * 3 + 1, none⟩ = some (.int .i64 y.l) ∧ Below WB.heap.size WB w') (by kernel_rfl) (held02 wg3 wg2) (fun hHeld => ?_)
            refine takeD (i := 0) (oi := _) (v := ?_) (some 83) rfl rfl (by kernel_rfl) (by kernel_rfl) (by kernel_rfl) (fun _ _ _ h => h) (Or.inl ⟨by rfl, ?_⟩) (by assumption) ?_
            rotate_left
            · intro w hSw; (try dsimp only at hSw); go_simp; (try rw [if_neg (by omega)]); try with_reducible rfl
            try simp only [Act.put, List.setIfInBounds_toArray, List.set_cons_zero, List.set_cons_succ]
            refine takeD (i := 1) (oi := _) (v := ?_) (some 84) rfl rfl (by kernel_rfl) (by kernel_rfl) (by kernel_rfl) (fun _ _ _ h => h) (Or.inl ⟨by rfl, ?_⟩) (by assumption) ?_
            rotate_left
            · intro w hSw; (try dsimp only at hSw); go_simp; (try rw [if_neg (by omega)]); try with_reducible rfl
            try simp only [Act.put, List.setIfInBounds_toArray, List.set_cons_zero, List.set_cons_succ]
            refine takeD (i := 2) (oi := _) (v := ?_) (some 85) rfl rfl (by kernel_rfl) (by kernel_rfl) (by kernel_rfl) (fun _ _ _ h => h) (Or.inl ⟨by rfl, ?_⟩) (by assumption) ?_
            rotate_left
            · intro w hSw; (try dsimp only at hSw); go_simp; (try rw [if_neg (by omega)]); try with_reducible rfl
            try simp only [Act.put, List.setIfInBounds_toArray, List.set_cons_zero, List.set_cons_succ]
            refine takeD (i := 3) (oi := _) (v := ?_) (some 86) rfl rfl (by kernel_rfl) (by kernel_rfl) (by kernel_rfl) (fun _ _ _ h => h) (Or.inl ⟨by rfl, ?_⟩) (by assumption) ?_
            rotate_left
            · intro w hSw; (try dsimp only at hSw); go_simp; (try rw [if_neg (by omega)]); try with_reducible rfl
            try simp only [Act.put, List.setIfInBounds_toArray, List.set_cons_zero, List.set_cons_succ]
            refine takeD (i := 4) (oi := _) (v := ?_) (some 87) rfl rfl (by kernel_rfl) (by kernel_rfl) (by kernel_rfl) (fun _ _ _ h => h) (Or.inl ⟨by rfl, ?_⟩) (by assumption) ?_
            rotate_left
            · intro w hSw; (try dsimp only at hSw); go_simp; (try rw [if_neg (by omega)]); try with_reducible rfl
            try simp only [Act.put, List.setIfInBounds_toArray, List.set_cons_zero, List.set_cons_succ]
            refine takeD (i := 5) (oi := _) (v := ?_) (some 88) rfl rfl (by kernel_rfl) (by kernel_rfl) (by kernel_rfl) (fun _ _ _ h => h) (Or.inl ⟨by rfl, ?_⟩) (by assumption) ?_
            rotate_left
            · intro w hSw; (try dsimp only at hSw); go_simp; (try rw [if_neg (by omega)]); try with_reducible rfl
            try simp only [Act.put, List.setIfInBounds_toArray, List.set_cons_zero, List.set_cons_succ]
            refine takeD (i := 6) (oi := _) (v := ?_) (some 89) rfl rfl (by kernel_rfl) (by kernel_rfl) (by kernel_rfl) (fun _ _ _ h => h) (Or.inl ⟨by rfl, ?_⟩) (by assumption) ?_
            rotate_left
            · intro w hSw; (try dsimp only at hSw); go_simp; (try rw [if_neg (by omega)]); try with_reducible rfl
            try simp only [Act.put, List.setIfInBounds_toArray, List.set_cons_zero, List.set_cons_succ]
            refine takeD (i := 7) (oi := _) (v := ?_) (some 90) rfl rfl (by kernel_rfl) (by kernel_rfl) (by kernel_rfl) (fun _ _ _ h => h) (Or.inl ⟨by rfl, ?_⟩) (by assumption) ?_
            rotate_left
            · intro w hSw; (try dsimp only at hSw); go_simp; (try rw [if_neg (by omega)]); try with_reducible rfl
            try simp only [Act.put, List.setIfInBounds_toArray, List.set_cons_zero, List.set_cons_succ]
            refine takeD (i := 8) (oi := _) (v := ?_) (some 91) rfl rfl (by kernel_rfl) (by kernel_rfl) (by kernel_rfl) (fun _ _ _ h => h) (Or.inl ⟨by rfl, ?_⟩) (by assumption) ?_
            rotate_left
            · intro w hSw; (try dsimp only at hSw); go_simp; (try rw [if_neg (by omega)]); try with_reducible rfl
            try simp only [Act.put, List.setIfInBounds_toArray, List.set_cons_zero, List.set_cons_succ]
            refine takeD (i := 9) (oi := _) (v := ?_) (some 92) rfl rfl (by kernel_rfl) (by kernel_rfl) (by kernel_rfl) (fun _ _ _ h => h) (Or.inl ⟨by rfl, ?_⟩) (by assumption) ?_
            rotate_left
            · intro w hSw; (try dsimp only at hSw); go_simp; (try rw [if_neg (by omega)]); try with_reducible rfl
            try simp only [Act.put, List.setIfInBounds_toArray, List.set_cons_zero, List.set_cons_succ]
            refine takeD (i := 10) (oi := _) (v := ?_) (some 93) rfl rfl (by kernel_rfl) (by kernel_rfl) (by kernel_rfl) (fun _ _ _ h => h) (Or.inl ⟨by rfl, ?_⟩) (by assumption) ?_
            rotate_left
            · intro w hSw; (try dsimp only at hSw); go_simp; (try rw [if_neg (by omega)]); try with_reducible rfl
            try simp only [Act.put, List.setIfInBounds_toArray, List.set_cons_zero, List.set_cons_succ]
            refine takeD (i := 11) (oi := _) (v := ?_) (some 94) rfl rfl (by kernel_rfl) (by kernel_rfl) (by kernel_rfl) (fun _ _ _ h => h) (Or.inl ⟨by rfl, ?_⟩) (by assumption) ?_
            rotate_left
            · intro w hSw; (try dsimp only at hSw); go_simp; (try rw [if_neg (by omega)]); try with_reducible rfl
            try simp only [Act.put, List.setIfInBounds_toArray, List.set_cons_zero, List.set_cons_succ]
            refine takeD (i := 12) (oi := _) (v := ?_) (some 95) rfl rfl (by kernel_rfl) (by kernel_rfl) (by kernel_rfl) (fun _ _ _ h => h) (Or.inl ⟨by rfl, ?_⟩) (by assumption) ?_
            rotate_left
            · intro w hSw; (try dsimp only at hSw); go_simp; (try rw [if_neg (by omega)]); try with_reducible rfl
            try simp only [Act.put, List.setIfInBounds_toArray, List.set_cons_zero, List.set_cons_succ]
            refine takeD (i := 13) (oi := _) (v := ?_) (some 96) rfl rfl (by kernel_rfl) (by kernel_rfl) (by kernel_rfl) (fun _ _ _ h => h) (Or.inl ⟨by rfl, ?_⟩) (by assumption) ?_
            rotate_left
            · intro w hSw; (try dsimp only at hSw); go_simp; (try rw [if_neg (by omega)]); try with_reducible rfl
            try simp only [Act.put, List.setIfInBounds_toArray, List.set_cons_zero, List.set_cons_succ]
            refine wpAnyH_ready (rs := [14]) (by kernel_rfl) (by simp) ?_
            refine AllReadyH.cons (o := _) rfl (fun K hK => ?_) AllReadyH.nil
            go_simp
            refine (implOwnUse_any _ _ _ (charged l (k0 : Int) m) _ HXN.out hln _ ((HX.out.below hbB).below (heldL2 hHeld))).mono ?_
            rintro e w3 ⟨rfl, hb3⟩
            go_wp2_with fail
            refine hK.out _ _ (heldC2 hHeld hb3 (Nat.le_refl _) hxbwB hxbwB) (fun hHeld => ?_)
            clear hK K
            try simp only [Act.put, List.setIfInBounds_toArray, List.set_cons_zero, List.set_cons_succ]
            refine takeD (i := 15) (oi := _) (v := ?_) (some 98) rfl rfl (by kernel_rfl) (by kernel_rfl) (by kernel_rfl) (fun _ _ _ h => h) (Or.inl ⟨by rfl, ?_⟩) (by assumption) ?_
            rotate_left
            · intro w hSw; (try dsimp only at hSw); go_simp; (try rw [if_neg (by omega)]); try with_reducible rfl
            try simp only [Act.put, List.setIfInBounds_toArray, List.set_cons_zero, List.set_cons_succ]
            refine takeD (i := 16) (oi := _) (v := ?_) (some 99) rfl rfl (by kernel_rfl) (by kernel_rfl) (by kernel_rfl) (fun _ _ _ h => h) (Or.inl ⟨by rfl, ?_⟩) (by assumption) ?_
            rotate_left
            · intro w hSw; (try dsimp only at hSw); go_simp; (try rw [if_neg (by omega)]); try with_reducible rfl
            try simp only [Act.put, List.setIfInBounds_toArray, List.set_cons_zero, List.set_cons_succ]
            refine takeD (i := 17) (oi := _) (v := ?_) (some 100) rfl rfl (by kernel_rfl) (by kernel_rfl) (by kernel_rfl) (fun _ _ _ h => h) (Or.inl ⟨by rfl, ?_⟩) (by assumption) ?_
            rotate_left
            · intro w hSw; (try dsimp only at hSw); go_simp; (try rw [if_neg (by omega)]); try with_reducible rfl
            try simp only [Act.put, List.setIfInBounds_toArray, List.set_cons_zero, List.set_cons_succ]
            refine takeD (i := 18) (oi := _) (v := ?_) (some 101) rfl rfl (by kernel_rfl) (by kernel_rfl) (by kernel_rfl) (fun _ _ _ h => h) (Or.inl ⟨by rfl, ?_⟩) (by assumption) ?_
            rotate_left
            · intro w hSw; (try dsimp only at hSw); go_simp; (try rw [if_neg (by omega)]); try with_reducible rfl
            try simp only [Act.put, List.setIfInBounds_toArray, List.set_cons_zero, List.set_cons_succ]
            refine takeD (i := 19) (oi := _) (v := ?_) (some 102) rfl rfl (by kernel_rfl) (by kernel_rfl) (by kernel_rfl) (fun _ _ _ h => h) (Or.inl ⟨by rfl, ?_⟩) (by assumption) ?_
            rotate_left
            · intro w hSw; (try dsimp only at hSw); go_simp; (try rw [if_neg (by omega)]); try with_reducible rfl
            try simp only [Act.put, List.setIfInBounds_toArray, List.set_cons_zero, List.set_cons_succ]
            refine takeD (i := 20) (oi := _) (v := ?_) (some 103) rfl rfl (by kernel_rfl) (by kernel_rfl) (by kernel_rfl) (fun _ _ _ h => h) (Or.inl ⟨by rfl, ?_⟩) (by assumption) ?_
            rotate_left
            · intro w hSw; (try dsimp only at hSw); go_simp; (try rw [if_neg (by omega)]); try with_reducible rfl
            try simp only [Act.put, List.setIfInBounds_toArray, List.set_cons_zero, List.set_cons_succ]
            refine takeD (i := 21) (oi := _) (v := undef) (some 104) rfl rfl (by kernel_rfl) (by kernel_rfl) (by kernel_rfl) (fun _ _ _ h => h) (Or.inr ⟨by rfl, rfl⟩) (by assumption) ?_
            try simp only [Act.put, List.setIfInBounds_toArray, List.set_cons_zero, List.set_cons_succ]
            refine takeD (i := 22) (oi := _) (v := undef) (some 105) rfl rfl (by kernel_rfl) (by kernel_rfl) (by kernel_rfl) (fun _ _ _ h => h) (Or.inr ⟨by rfl, rfl⟩) (by assumption) ?_
            try simp only [Act.put, List.setIfInBounds_toArray, List.set_cons_zero, List.set_cons_succ]
            refine takeD (i := 23) (oi := _) (v := undef) (some 106) rfl rfl (by kernel_rfl) (by kernel_rfl) (by kernel_rfl) (fun _ _ _ h => h) (Or.inr ⟨by rfl, rfl⟩) (by assumption) ?_
            try simp only [Act.put, List.setIfInBounds_toArray, List.set_cons_zero, List.set_cons_succ]
            refine takeD (i := 24) (oi := _) (v := undef) (some 107) rfl rfl (by kernel_rfl) (by kernel_rfl) (by kernel_rfl) (fun _ _ _ h => h) (Or.inr ⟨by rfl, rfl⟩) (by assumption) ?_
            try simp only [Act.put, List.setIfInBounds_toArray, List.set_cons_zero, List.set_cons_succ]
            refine takeD (i := 25) (oi := _) (v := undef) (some 108) rfl rfl (by kernel_rfl) (by kernel_rfl) (by kernel_rfl) (fun _ _ _ h => h) (Or.inr ⟨by rfl, rfl⟩) (by assumption) ?_
            try simp only [Act.put, List.setIfInBounds_toArray, List.set_cons_zero, List.set_cons_succ]
            refine takeD (i := 26) (oi := _) (v := undef) (some 109) rfl rfl (by kernel_rfl) (by kernel_rfl) (by kernel_rfl) (fun _ _ _ h => h) (Or.inr ⟨by rfl, rfl⟩) (by assumption) ?_
            try simp only [Act.put, List.setIfInBounds_toArray, List.set_cons_zero, List.set_cons_succ]
            refine takeD (i := 27) (oi := _) (v := undef) (some 110) rfl rfl (by kernel_rfl) (by kernel_rfl) (by kernel_rfl) (fun _ _ _ h => h) (Or.inr ⟨by rfl, rfl⟩) (by assumption) ?_
            try simp only [Act.put, List.setIfInBounds_toArray, List.set_cons_zero, List.set_cons_succ]
            refine takeD (i := 28) (oi := _) (v := undef) (some 111) rfl rfl (by kernel_rfl) (by kernel_rfl) (by kernel_rfl) (fun _ _ _ h => h) (Or.inr ⟨by rfl, rfl⟩) (by assumption) ?_
            try simp only [Act.put, List.setIfInBounds_toArray, List.set_cons_zero, List.set_cons_succ]
            refine takeD (i := 29) (oi := _) (v := undef) (some 112) rfl rfl (by kernel_rfl) (by kernel_rfl) (by kernel_rfl) (fun _ _ _ h => h) (Or.inr ⟨by rfl, rfl⟩) (by assumption) ?_
            try simp only [Act.put, List.setIfInBounds_toArray, List.set_cons_zero, List.set_cons_succ]
            refine takeD (i := 30) (oi := _) (v := ?_) (some 113) rfl rfl (by kernel_rfl) (by kernel_rfl) (by kernel_rfl) (fun _ _ _ h => h) (Or.inl ⟨by rfl, ?_⟩) (by assumption) ?_
            rotate_left
            · intro w hSw; (try dsimp only at hSw); go_simp; (try rw [if_neg (by omega)]); try with_reducible rfl
            try simp only [Act.put, List.setIfInBounds_toArray, List.set_cons_zero, List.set_cons_succ]
            refine takeD (i := 31) (oi := _) (v := ?_) (some 114) rfl rfl (by kernel_rfl) (by kernel_rfl) (by kernel_rfl) (fun _ _ _ h => h) (Or.inl ⟨by rfl, ?_⟩) (by assumption) ?_
            rotate_left
            · intro w hSw; (try dsimp only at hSw); go_simp; (try rw [if_neg (by omega)]); try with_reducible rfl
            try simp only [Act.put, List.setIfInBounds_toArray, List.set_cons_zero, List.set_cons_succ]
            refine wpAnyH_done (by kernel_rfl) ?_ _
            have hbE := hbB.trans ((heldL2 hHeld).mono hbB.size)
            clear hHeld
            go_wp2
            go_roundg (gk - 1)
            case measure => omega
            case rel => exact ⟨k + 1, _, by omega, by omega, by go_num, rfl, by omega, by omega, HSA, hbE⟩
          · have hkl : k = l.length := by omega
            obtain ⟨y, hy⟩ := some_at (l := (charged l (k0 : Int) m)) (k := 0) (by have := HXN.out; omega)
            have hroot := ownSum_root HQ.out hy
            rw [← HXN.out, ← hkl, hsa.out] at hroot
            obtain ⟨xb, xo, hxa, hxbw, g1, g2, g3⟩ := (HX.out.below hb).rowNode hy
            subst hxa
            simp only [Nat.zero_mul, Nat.add_zero] at g1 g2 g3
            have hpos : 0 < l.length := by omega
            have hsr := Lib.hid hroot
            rw [hroot]
            clear hroot hsa ha0 ha1 hgk hk hlt hy
            skip
            go_wp2_with fail
            refine (implRefund_any _ _ _ (charged l (k0 : Int) m) (k0 : Int) m HXN.out hln _ (HX.out.below hb)).mono ?_
            rintro e w4 ⟨v4, rfl, ho4, hb4⟩
            rw [HRF.out] at ho4 ⊢
            obtain ⟨ya, yc, rfl, _⟩ := owns_slice ho4
            have HY := hideP (rd_of_owns ho4)
            have hb04 := hb.trans (hb4.mono hb.size)
            clear ho4 hb4
            go_wp2_with fail
            refine (implOwnUse_any _ _ _ (charged l (k0 : Int) m) _ HXN.out hln _ (HX.out.below hb04)).mono ?_
            rintro e w5 ⟨rfl, hb5⟩
            have hb05 := hb04.trans (hb5.mono hb04.size)
            rw [HOW.out]
            have HY5 := hideP (HY.out.below hb5)
            clear hb5
            go_wp2_with fail
            refine (implOwnUse_any _ _ _ l _ rfl hln _ (HL.out.below hb05)).mono ?_
            rintro e w6 ⟨rfl, hb6⟩
            have hb06 := hb05.trans (hb6.mono hb05.size)
            have HY6 := hideP (HY5.out.below hb6)
            have HL6 := hideP (HL.out.below hb06)
            clear hb6
            go_wp2
            go_loopg [12] (l.length + 1) (fun gk iv wr => ∃ (k : Nat), l.length < gk + k ∧ k ≤ l.length ∧ iv = .int .i64 k ∧ Qt w6 wr)
            case atStart => exact ⟨0, by omega, by omega, rfl, Qt.refl _⟩
            case round =>
              obtain ⟨k, hgk, hk, rfl, hq, rfl⟩ := hrel
              by_cases hlt : k < l.length
              · obtain ⟨y, hy⟩ := some_at (l := l) (k := k) hlt
                obtain ⟨b1, o1, ha1, hbw1, g1, g2, g3⟩ := HY6.out.rowNode hy
                obtain ⟨b2, o2, ha2, hbw2, j1, j2, j3⟩ := HL6.out.rowNode hy
                subst ha1 ha2
                clear hy
                go_wp2
                go_quiet (fail)
                go_wp2
                go_roundg (gk - 1)
                case measure => omega
                case rel => exact ⟨k + 1, by omega, by omega, by go_num, by first | exact Qt.dd _ _ _ | exact Qt.d _ _⟩
              · go_wp2
                go_ret
                exact ⟨rfl, HB0.out.trans (((HBX.out).trans ((below_drewN hb06 _).mono HBX.out.size)).mono HB0.out.size)⟩
  · have d0 : decide (1048576 < n) = true := by simpa using hs
    go_enter Try.func11, Try.ntmps11
    go_wp2_with fail
    refine (big_any _ _ _ _ hl).mono ?_
    rintro e w' ⟨rfl, rfl⟩
    rw [d0]
    go_wp2
    go_ret
    exact ⟨rfl, Below.refl _ _⟩
end Go.Proofs.Ytclananddmjnaaa
