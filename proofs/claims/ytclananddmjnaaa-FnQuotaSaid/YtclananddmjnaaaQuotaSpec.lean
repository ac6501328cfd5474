/- QuotaOk: the walk of one side. -/
import Derived.Test.YtclananddmjnaaaQuotaPure
namespace Go.Proofs.Ytclananddmjnaaa
open Go.RowKit

set_option maxRecDepth 100000 in
set_option maxHeartbeats 4000000 in
theorem specQuotaOk_big (a : Option Addr) (n cap : Nat) (l : List Node) (hn : n = l.length) (hl : n ≤ 2000000) (w : World) (h : Rd w a (l.flatMap Node.enc)) :
    Calls Try.prog 54 #[.slice a n cap] w fun e w' => e = .returned (.bool (quotaOk l)) ∧ Qt w w' := by
  have Hn := Lib.hid hn
  by_cases hlen : inB n 1 8 = true
  · have hb8 := inB_true.1 hlen
    have h1 : 0 < l.length := by omega
    obtain ⟨x0, hx0⟩ := some_at (l := l) (k := 0) h1
    obtain ⟨b0, o0, ha0, hbw0, g1, _, _⟩ := h.rowNode hx0
    simp only [Nat.zero_mul, Nat.add_zero] at g1
    have hd0 : l.headD ⟨0, 0, 0⟩ = x0 := by cases l <;> simp_all
    by_cases hp : x0.p = -1
    · have hq : quotaHead l = true := by unfold quotaHead; rw [hd0, ← hn, hlen, hp]; rfl
      have Hq := Lib.hid hq
      have d0 : (x0.p != -1) = false := by simp [hp]
      have d0' : (x0.p == -1) = true := by simp [hp]
      clear hq hp hd0 hx0 hn
      subst ha0
      go_enter Try.func54, Try.ntmps54
      go_wp2_with (go_at_call 66; refine (l1In_any _ _ _ _).mono ?_; rintro e w' ⟨rfl, rfl⟩)
      go_loopg [2, 3] (n + 1) (fun gk r i wr => ∃ (k : Nat), n - k < gk ∧ k ≤ n ∧ i = .int .i64 k ∧ r = .bool false ∧ Hid (allFrom nodeOk 0 l = allFrom nodeOk k (l.drop k)) ∧ Qt w wr)
      case atStart => exact ⟨0, by omega, by omega, rfl, rfl, hideP rfl, Qt.refl _⟩
      case round =>
        obtain ⟨k, hg, hk, rfl, rfl, hf, hb⟩ := hrel
        by_cases hlt : k < n
        · obtain ⟨x, hx⟩ := some_at (l := l) (k := k) (by have := Hn.out; omega)
          obtain ⟨m, rfl⟩ := hb
          obtain ⟨b, o, ha, hbw, g1, g2, g3⟩ := h.rowNode hx
          simp only [Option.some.injEq, Addr.mk.injEq, and_true] at ha
          obtain ⟨rfl, rfl⟩ := ha
          have Hx := Lib.hid hx
          clear hx
          by_cases hk0 : 0 < k
          · have e0 : decide (0 < k) = true := by simpa using hk0
            have e1 : decide (0 < (k : Int)) = true := by simpa using hk0
            cases t1 : inB x.p 0 ((k : Int) - 1)
            · have t1' := Lib.hid t1
              have HB := Lib.hid (quota_nodes_bad (allFrom_bad hf.out Hx.out (nodeOk_bad1 hk0 t1'.out)))
              go_wp2
              go_quiet (first | (go_at_call 66; exact quietS (l1In_any _ _ _ _)) | (go_at_call 94; exact quietS (l5In_any _ _)))
              go_wp2
              go_ret
              exact ⟨ret_bool HB.out.symm, (by first | exact Qt.d _ _ | exact Qt.dd _ _ _)⟩
            · have t1' := Lib.hid t1
              cases t2 : inB x.l 0 1000000
              · have t2' := Lib.hid t2
                have HB := Lib.hid (quota_nodes_bad (allFrom_bad hf.out Hx.out (nodeOk_bad2 t2'.out)))
                go_wp2
                go_quiet (first | (go_at_call 66; exact quietS (l1In_any _ _ _ _)) | (go_at_call 94; exact quietS (l5In_any _ _)))
                go_wp2
                go_ret
                exact ⟨ret_bool HB.out.symm, (by first | exact Qt.d _ _ | exact Qt.dd _ _ _)⟩
              · cases t3 : inB x.u 0 x.l
                · have t3' := Lib.hid t3
                  have HB := Lib.hid (quota_nodes_bad (allFrom_bad hf.out Hx.out (nodeOk_bad3 t3'.out)))
                  go_wp2
                  go_quiet (first | (go_at_call 66; exact quietS (l1In_any _ _ _ _)) | (go_at_call 94; exact quietS (l5In_any _ _)))
                  go_wp2
                  go_ret
                  exact ⟨ret_bool HB.out.symm, (by first | exact Qt.d _ _ | exact Qt.dd _ _ _)⟩
                · skip
                  have HG := Lib.hid (allFrom_good hf.out Hx.out (nodeOk_split k x (.inr t1'.out) t2 t3))
                  go_wp2
                  go_quiet (first | (go_at_call 66; exact quietS (l1In_any _ _ _ _)) | (go_at_call 94; exact quietS (l5In_any _ _)))
                  go_wp2
                  go_roundg (gk - 1)
                  case measure => omega
                  case rel => exact ⟨k + 1, by omega, by omega, by go_num, rfl, HG, (by first | exact Qt.d _ _ | exact Qt.dd _ _ _)⟩
          · have e0 : decide (0 < k) = false := by simpa using hk0
            have e1 : decide (0 < (k : Int)) = false := by simpa using hk0
            cases t2 : inB x.l 0 1000000
            · have t2' := Lib.hid t2
              have HB := Lib.hid (quota_nodes_bad (allFrom_bad hf.out Hx.out (nodeOk_bad2 t2'.out)))
              go_wp2
              go_quiet (first | (go_at_call 66; exact quietS (l1In_any _ _ _ _)) | (go_at_call 94; exact quietS (l5In_any _ _)))
              go_wp2
              go_ret
              exact ⟨ret_bool HB.out.symm, (by first | exact Qt.d _ _ | exact Qt.dd _ _ _)⟩
            · cases t3 : inB x.u 0 x.l
              · have t3' := Lib.hid t3
                have HB := Lib.hid (quota_nodes_bad (allFrom_bad hf.out Hx.out (nodeOk_bad3 t3'.out)))
                go_wp2
                go_quiet (first | (go_at_call 66; exact quietS (l1In_any _ _ _ _)) | (go_at_call 94; exact quietS (l5In_any _ _)))
                go_wp2
                go_ret
                exact ⟨ret_bool HB.out.symm, (by first | exact Qt.d _ _ | exact Qt.dd _ _ _)⟩
              · skip
                have HG := Lib.hid (allFrom_good hf.out Hx.out (nodeOk_split k x (.inl (by omega)) t2 t3))
                go_wp2
                go_quiet (first | (go_at_call 66; exact quietS (l1In_any _ _ _ _)) | (go_at_call 94; exact quietS (l5In_any _ _)))
                go_wp2
                go_roundg (gk - 1)
                case measure => omega
                case rel => exact ⟨k + 1, by omega, by omega, by go_num, rfl, HG, (by first | exact Qt.d _ _ | exact Qt.dd _ _ _)⟩
        · have HA := Lib.hid (allFrom_end hf.out (by have := Hn.out; omega))
          have Hno : Hid (nodesOk l = true) := hideP (by unfold nodesOk; rw [Hq.out, HA.out]; rfl)
          have hsm := nodesOk_small Hno.out
          have Hsm := Lib.hid hsm
          clear hsm
          go_wp2
          go_loopg [2, 4] (n + 1) (fun gk r i wr => ∃ (k : Nat), n - k < gk ∧ k ≤ n ∧ i = .int .i64 k ∧ r = .bool false ∧ Hid (sumsOk l = allFrom (fun i x => decide (usedBelow l i ≤ x.u)) k (l.drop k)) ∧ Qt w wr)
          case atStart => exact ⟨0, by omega, by omega, rfl, rfl, hideP rfl, hb⟩
          case round =>
            obtain ⟨k, hg, hk, rfl, rfl, hf, hb⟩ := hrel
            by_cases hlt : k < n
            · obtain ⟨x, hx⟩ := some_at (l := l) (k := k) (by have := Hn.out; omega)
              obtain ⟨m, rfl⟩ := hb
              obtain ⟨b, o, ha, hbw, g1, g2, g3⟩ := h.rowNode hx
              simp only [Option.some.injEq, Addr.mk.injEq, and_true] at ha
              obtain ⟨rfl, rfl⟩ := ha
              have Hx := Lib.hid hx
              clear hx
              cases t : decide (x.u < usedBelow l (k : Int))
              · have HG := Lib.hid (allFrom_good hf.out Hx.out (by simp at t ⊢; omega))
                go_wp2
                go_quiet ((go_at_call 95; exact quietS (l20Kids_k _ _ _ l k Hn.out Hno.out hlt _ (h.drewN _))))
                go_wp2
                go_roundg (gk - 1)
                case measure => omega
                case rel => exact ⟨k + 1, by omega, by omega, by go_num, rfl, HG, (by first | exact Qt.d _ _ | exact Qt.dd _ _ _)⟩
              · have HB := Lib.hid (quota_sums_bad (allFrom_bad hf.out Hx.out (by simp at t ⊢; omega)))
                go_wp2
                go_quiet ((go_at_call 95; exact quietS (l20Kids_k _ _ _ l k Hn.out Hno.out hlt _ (h.drewN _))))
                go_wp2
                go_ret
                exact ⟨ret_bool HB.out.symm, (by first | exact Qt.d _ _ | exact Qt.dd _ _ _)⟩

            · have HS := Lib.hid (quota_ok Hq.out HA.out (allFrom_end hf.out (by have := Hn.out; omega)))
              go_wp2
              go_ret
              exact ⟨ret_bool HS.out.symm, hb⟩
    · have HB := Lib.hid (quota_head_bad (l := l) (by unfold quotaHead; rw [hd0]; simp [hp]))
      have d0 : (x0.p != -1) = true := by simpa using hp
      have d0' : (x0.p == -1) = false := by simpa using hp
      clear hp hd0 hx0 hn
      subst ha0
      go_enter Try.func54, Try.ntmps54
      go_wp2_with (go_at_call 66; refine (l1In_any _ _ _ _).mono ?_; rintro e w' ⟨rfl, rfl⟩)
      go_ret
      exact ⟨ret_bool HB.out.symm, Qt.refl _⟩
  · have hlen : inB n 1 8 = false := by simpa using hlen
    have HB := Lib.hid (quota_head_bad (l := l) (by unfold quotaHead; rw [← hn, hlen]; rfl))
    clear hn
    go_enter Try.func54, Try.ntmps54
    go_wp2_with (go_at_call 66; refine (l1In_any _ _ _ _).mono ?_; rintro e w' ⟨rfl, rfl⟩)
    go_ret
    exact ⟨ret_bool HB.out.symm, Qt.refl _⟩

theorem specQuotaOk_any (a : Option Addr) (n cap : Nat) (l : List Node) (hn : n = l.length) (hl : n ≤ 1048576) (w : World) (h : Rd w a (l.flatMap Node.enc)) :
    Calls Try.prog 54 #[.slice a n cap] w fun e w' => e = .returned (.bool (quotaOk l)) ∧ Qt w w' := specQuotaOk_big a n cap l hn (by omega) w h
end Go.Proofs.Ytclananddmjnaaa
