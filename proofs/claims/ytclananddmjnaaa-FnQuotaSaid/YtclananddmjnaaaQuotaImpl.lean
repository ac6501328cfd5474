/- QuotaOk: the walk of one side. -/
import Derived.Test.YtclananddmjnaaaQuotaPure
namespace Go.Proofs.Ytclananddmjnaaa
open Go.RowKit

set_option maxRecDepth 100000 in
set_option maxHeartbeats 4000000 in
theorem implQuotaOk_big (a : Option Addr) (n cap : Nat) (l : List Node) (hn : n = l.length) (hl : n ≤ 2000000) (w : World) (h : Rd w a (l.flatMap Node.enc)) :
    Calls Try.prog 83 #[.slice a n cap] w fun e w' => e = .returned (.bool (quotaOk l)) ∧ Below w.heap.size w w' := by
  have Hn := Lib.hid hn
  by_cases hlen : inB n 1 8 = true
  · have hb8 := inB_true.1 hlen
    have h1 : 0 < l.length := by omega
    obtain ⟨x0, hx0⟩ := some_at (l := l) (k := 0) h1
    obtain ⟨b0, o0, ha0, hbw0, g1, _, _⟩ := h.rowNode hx0
    simp only [Nat.zero_mul, Nat.add_zero] at g1
    have hd0 : l.headD ⟨0, 0, 0⟩ = x0 := by cases l <;> simp_all
    by_cases hp : x0.p = -1
    · have hq : quotaHead l = true := by unfold quotaHead; rw [hd0, ← hn, hlen, hp]; rfl
      have Hq := Lib.hid hq
      have d0 : (x0.p != -1) = false := by simp [hp]
      have d0' : (x0.p == -1) = true := by simp [hp]
      clear hq hp hd0 hx0 hn
      subst ha0
      go_enter Try.func83, Try.ntmps83
      go_wp2_with (go_at_call 76; refine (within_any _ _ _ _).mono ?_; rintro e w' ⟨rfl, rfl⟩)
      go_loopg [2, 20] (n + 1) (fun gk r i wr => ∃ (k : Nat), n - k < gk ∧ k ≤ n ∧ i = .int .i64 k ∧ r = .bool false ∧ Hid (allFrom nodeOk 0 l = allFrom nodeOk k (l.drop k)) ∧ Below w.heap.size w wr)
      case atStart => exact ⟨0, by omega, by omega, rfl, rfl, hideP rfl, Below.refl _ _⟩
      case round =>
        obtain ⟨k, hg, hk, rfl, rfl, hf, hb⟩ := hrel
        by_cases hlt : k < n
        · obtain ⟨x, hx⟩ := some_at (l := l) (k := k) (by have := Hn.out; omega)
          obtain ⟨b, o, ha, hbw, g1, g2, g3⟩ := (h.below hb).rowNode hx
          simp only [Option.some.injEq, Addr.mk.injEq, and_true] at ha
          obtain ⟨rfl, rfl⟩ := ha
          have Hx := Lib.hid hx
          clear hx
          by_cases hk0 : 0 < k
          · have e0 : decide (0 < k) = true := by simpa using hk0
            have e1 : decide (0 < (k : Int)) = true := by simpa using hk0
            cases t1 : inB x.p 0 ((k : Int) - 1)
            · have t1' := Lib.hid t1
              have HB := Lib.hid (quota_nodes_bad (allFrom_bad hf.out Hx.out (nodeOk_bad1 hk0 t1'.out)))
              go_wp2_with (first | (go_at_call 76; refine (within_any _ _ _ _).mono ?_; rintro e w' ⟨rfl, rfl⟩) | (go_at_call 110; refine (isAmount_any _ _).mono ?_; rintro e w' ⟨rfl, rfl⟩))
              go_ret
              exact ⟨ret_bool HB.out.symm, (hb.alloc hb.size _)⟩
            · have t1' := Lib.hid t1
              cases t2 : inB x.l 0 1000000
              · have t2' := Lib.hid t2
                have HB := Lib.hid (quota_nodes_bad (allFrom_bad hf.out Hx.out (nodeOk_bad2 t2'.out)))
                go_wp2_with (first | (go_at_call 76; refine (within_any _ _ _ _).mono ?_; rintro e w' ⟨rfl, rfl⟩) | (go_at_call 110; refine (isAmount_any _ _).mono ?_; rintro e w' ⟨rfl, rfl⟩))
                go_ret
                exact ⟨ret_bool HB.out.symm, (hb.alloc hb.size _)⟩
              · cases t3 : inB x.u 0 x.l
                · have t3' := Lib.hid t3
                  have HB := Lib.hid (quota_nodes_bad (allFrom_bad hf.out Hx.out (nodeOk_bad3 t3'.out)))
                  go_wp2_with (first | (go_at_call 76; refine (within_any _ _ _ _).mono ?_; rintro e w' ⟨rfl, rfl⟩) | (go_at_call 110; refine (isAmount_any _ _).mono ?_; rintro e w' ⟨rfl, rfl⟩))
                  go_ret
                  exact ⟨ret_bool HB.out.symm, (hb.alloc hb.size _)⟩
                · skip
                  have HG := Lib.hid (allFrom_good hf.out Hx.out (nodeOk_split k x (.inr t1'.out) t2 t3))
                  go_wp2_with (first | (go_at_call 76; refine (within_any _ _ _ _).mono ?_; rintro e w' ⟨rfl, rfl⟩) | (go_at_call 110; refine (isAmount_any _ _).mono ?_; rintro e w' ⟨rfl, rfl⟩))
                  go_roundg (gk - 1)
                  case measure => omega
                  case rel => exact ⟨k + 1, by omega, by omega, by go_num, rfl, HG, (hb.alloc hb.size _)⟩
          · have e0 : decide (0 < k) = false := by simpa using hk0
            have e1 : decide (0 < (k : Int)) = false := by simpa using hk0
            cases t2 : inB x.l 0 1000000
            · have t2' := Lib.hid t2
              have HB := Lib.hid (quota_nodes_bad (allFrom_bad hf.out Hx.out (nodeOk_bad2 t2'.out)))
              go_wp2_with (first | (go_at_call 76; refine (within_any _ _ _ _).mono ?_; rintro e w' ⟨rfl, rfl⟩) | (go_at_call 110; refine (isAmount_any _ _).mono ?_; rintro e w' ⟨rfl, rfl⟩))
              go_ret
              exact ⟨ret_bool HB.out.symm, (hb.alloc hb.size _)⟩
            · cases t3 : inB x.u 0 x.l
              · have t3' := Lib.hid t3
                have HB := Lib.hid (quota_nodes_bad (allFrom_bad hf.out Hx.out (nodeOk_bad3 t3'.out)))
                go_wp2_with (first | (go_at_call 76; refine (within_any _ _ _ _).mono ?_; rintro e w' ⟨rfl, rfl⟩) | (go_at_call 110; refine (isAmount_any _ _).mono ?_; rintro e w' ⟨rfl, rfl⟩))
                go_ret
                exact ⟨ret_bool HB.out.symm, (hb.alloc hb.size _)⟩
              · skip
                have HG := Lib.hid (allFrom_good hf.out Hx.out (nodeOk_split k x (.inl (by omega)) t2 t3))
                go_wp2_with (first | (go_at_call 76; refine (within_any _ _ _ _).mono ?_; rintro e w' ⟨rfl, rfl⟩) | (go_at_call 110; refine (isAmount_any _ _).mono ?_; rintro e w' ⟨rfl, rfl⟩))
                go_roundg (gk - 1)
                case measure => omega
                case rel => exact ⟨k + 1, by omega, by omega, by go_num, rfl, HG, (hb.alloc hb.size _)⟩
        · have HA := Lib.hid (allFrom_end hf.out (by have := Hn.out; omega))
          have Hno : Hid (nodesOk l = true) := hideP (by unfold nodesOk; rw [Hq.out, HA.out]; rfl)
          have hsm := nodesOk_small Hno.out
          have Hsm := Lib.hid hsm
          clear hsm
          go_wp2
          go_loopg [2, 52] (n + 1) (fun gk r i wr => ∃ (k : Nat), n - k < gk ∧ k ≤ n ∧ i = .int .i64 k ∧ r = .bool false ∧ Hid (sumsOk l = allFrom (fun i x => decide (usedBelow l i ≤ x.u)) k (l.drop k)) ∧ Below w.heap.size w wr)
          case atStart => exact ⟨0, by omega, by omega, rfl, rfl, hideP rfl, hb⟩
          case round =>
            obtain ⟨k, hg, hk, rfl, rfl, hf, hb⟩ := hrel
            by_cases hlt : k < n
            · obtain ⟨x, hx⟩ := some_at (l := l) (k := k) (by have := Hn.out; omega)
              obtain ⟨b, o, ha, hbw, g1, g2, g3⟩ := (h.below hb).rowNode hx
              simp only [Option.some.injEq, Addr.mk.injEq, and_true] at ha
              obtain ⟨rfl, rfl⟩ := ha
              have Hx := Lib.hid hx
              clear hx
              cases t : decide (x.u < usedBelow l (k : Int))
              · have HG := Lib.hid (allFrom_good hf.out Hx.out (by simp at t ⊢; omega))
                go_wp2
                generalize hWB : wr.alloc (.cells #[.int .i64 x.p, .int .i64 x.l, .int .i64 x.u] 69) = WB
                have hB1 : Below wr.heap.size wr WB := hWB ▸ below_a1 wr _
                have hB2 : WB.heap.size = wr.heap.size + 1 := by rw [← hWB]; simp
                have c0 : WB.cell? ⟨wr.heap.size, 2, none⟩ = some (.int .i64 x.u) := by rw [← hWB]; simp [go_sem]
                have hr2 := hideP ((h.below hb).below hB1)
                clear hWB g1 g2 g3
                have Hn2 := hB2
                clear hB2
                go_region_held3 (fun w' => w'.cell? ⟨wr.heap.size, 2, none⟩ = some (.int .i64 x.u) ∧ Below WB.heap.size WB w') ((first | exact keep0 (by assumption) | exact keepS (by assumption) (by assumption) (by simp; omega) (Nat.le_refl _))) (first | (go_at_call 96; refine (usedBelow_any _ _ _ l _ Hn.out Hsm.out _ (hr2.out.below (And.right (by assumption)))).mono ?_; rintro e w2 ⟨rfl, hb2⟩))
                obtain ⟨_, hS2⟩ : World.cell? _ ⟨wr.heap.size, 2, none⟩ = some (.int .i64 x.u) ∧ Below WB.heap.size WB _ := by assumption
                have hbe := (hb.trans (hB1.mono hb.size)).trans (hS2.mono (by have := hb.size; omega))
                go_wp2
                go_roundg (gk - 1)
                case measure => omega
                case rel => exact ⟨k + 1, by omega, by omega, by go_num, rfl, HG, hbe⟩
              · have HB := Lib.hid (quota_sums_bad (allFrom_bad hf.out Hx.out (by simp at t ⊢; omega)))
                go_wp2
                generalize hWB : wr.alloc (.cells #[.int .i64 x.p, .int .i64 x.l, .int .i64 x.u] 69) = WB
                have hB1 : Below wr.heap.size wr WB := hWB ▸ below_a1 wr _
                have hB2 : WB.heap.size = wr.heap.size + 1 := by rw [← hWB]; simp
                have c0 : WB.cell? ⟨wr.heap.size, 2, none⟩ = some (.int .i64 x.u) := by rw [← hWB]; simp [go_sem]
                have hr2 := hideP ((h.below hb).below hB1)
                clear hWB g1 g2 g3
                have Hn2 := hB2
                clear hB2
                go_region_held3 (fun w' => w'.cell? ⟨wr.heap.size, 2, none⟩ = some (.int .i64 x.u) ∧ Below WB.heap.size WB w') ((first | exact keep0 (by assumption) | exact keepS (by assumption) (by assumption) (by simp; omega) (Nat.le_refl _))) (first | (go_at_call 96; refine (usedBelow_any _ _ _ l _ Hn.out Hsm.out _ (hr2.out.below (And.right (by assumption)))).mono ?_; rintro e w2 ⟨rfl, hb2⟩))
                obtain ⟨_, hS2⟩ : World.cell? _ ⟨wr.heap.size, 2, none⟩ = some (.int .i64 x.u) ∧ Below WB.heap.size WB _ := by assumption
                have hbe := (hb.trans (hB1.mono hb.size)).trans (hS2.mono (by have := hb.size; omega))
                go_wp2
                go_ret
                exact ⟨ret_bool HB.out.symm, hbe⟩

            · have HS := Lib.hid (quota_ok Hq.out HA.out (allFrom_end hf.out (by have := Hn.out; omega)))
              go_wp2
              go_ret
              exact ⟨ret_bool HS.out.symm, hb⟩
    · have HB := Lib.hid (quota_head_bad (l := l) (by unfold quotaHead; rw [hd0]; simp [hp]))
      have d0 : (x0.p != -1) = true := by simpa using hp
      have d0' : (x0.p == -1) = false := by simpa using hp
      clear hp hd0 hx0 hn
      subst ha0
      go_enter Try.func83, Try.ntmps83
      go_wp2_with (go_at_call 76; refine (within_any _ _ _ _).mono ?_; rintro e w' ⟨rfl, rfl⟩)
      go_ret
      exact ⟨ret_bool HB.out.symm, Below.refl _ _⟩
  · have hlen : inB n 1 8 = false := by simpa using hlen
    have HB := Lib.hid (quota_head_bad (l := l) (by unfold quotaHead; rw [← hn, hlen]; rfl))
    clear hn
    go_enter Try.func83, Try.ntmps83
    go_wp2_with (go_at_call 76; refine (within_any _ _ _ _).mono ?_; rintro e w' ⟨rfl, rfl⟩)
    go_ret
    exact ⟨ret_bool HB.out.symm, Below.refl _ _⟩

theorem implQuotaOk_any (a : Option Addr) (n cap : Nat) (l : List Node) (hn : n = l.length) (hl : n ≤ 1048576) (w : World) (h : Rd w a (l.flatMap Node.enc)) :
    Calls Try.prog 83 #[.slice a n cap] w fun e w' => e = .returned (.bool (quotaOk l)) ∧ Below w.heap.size w w' := implQuotaOk_big a n cap l hn (by omega) w h
end Go.Proofs.Ytclananddmjnaaa
