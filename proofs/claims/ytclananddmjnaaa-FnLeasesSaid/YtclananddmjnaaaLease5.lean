/- Leases: Peak and LeasesFit of both sides. -/
import Derived.Test.YtclananddmjnaaaLease3
namespace Go.Proofs.Ytclananddmjnaaa
open Go.RowKit

def peakStep (l : List Lease) (s : Int × Int) (x : Lease) : Int × Int := if s.2 < pagesAt l x.f ∨ (pagesAt l x.f = s.2 ∧ 0 < pagesAt l x.f ∧ x.f < s.1) then (x.f, pagesAt l x.f) else s
def peak (l : List Lease) : Int × Int := l.foldl (peakStep l) (0, 0)
theorem peak_yes {l : List Lease} {s : Int × Int} {x : Lease} (h : s.2 < pagesAt l x.f ∨ (pagesAt l x.f = s.2 ∧ 0 < pagesAt l x.f ∧ x.f < s.1)) : peakStep l s x = (x.f, pagesAt l x.f) := by unfold peakStep; rw [if_pos h]
theorem peak_no {l : List Lease} {s : Int × Int} {x : Lease} (h : ¬ (s.2 < pagesAt l x.f ∨ (pagesAt l x.f = s.2 ∧ 0 < pagesAt l x.f ∧ x.f < s.1))) : peakStep l s x = s := by unfold peakStep; rw [if_neg h]
theorem peak_bad {l : List Lease} (h : leasesOk l = false) : peak l = (0, 0) := by
  unfold peak
  have hp : ∀ x, peakStep l (0, 0) x = (0, 0) := fun x => peak_no (by simp [pagesAt, h])
  generalize hm : l = m at hp ⊢
  have : ∀ k : List Lease, k.foldl (peakStep m) (0, 0) = (0, 0) := by
    intro k
    induction k with
    | nil => rfl
    | cons y k ih => rw [List.foldl_cons, hp y, ih]
  exact this m

set_option maxHeartbeats 1000000 in
theorem implPeak_any (a : Option Addr) (n cap : Nat) (l : List Lease) (hn : n = l.length) (hl : n ≤ 1048576) (w : World) (h : Rd w a (l.flatMap Lease.enc)) :
    Calls Try.prog 34 #[.slice a n cap] w fun e w' => e = .returned (.tuple #[.int .i64 (peak l).1, .int .i64 (peak l).2]) ∧ Below w.heap.size w w' := by
  have Hn := Lib.hid hn
  clear hn
  go_enter Try.func34, Try.ntmps34
  go_wp2
  go_loopw [4, 5, 11] (fun s r i wr => ∃ k : Nat, ∃ at0 best : Int, k ≤ n ∧ i = .int .i64 k ∧ s = .int .i64 at0 ∧ r = .int .i64 best ∧ Hid (l.foldl (peakStep l) (0, 0) = (l.drop k).foldl (peakStep l) (at0, best)) ∧ Below w.heap.size w wr) (fun _ _ i _ => n - (intOf i).toNat)
  case atStart => exact ⟨0, 0, 0, Nat.zero_le _, rfl, rfl, rfl, rfl, Below.refl _ _⟩
  case round =>
      obtain ⟨k, at0, best, hk, rfl, rfl, rfl, hf, hb⟩ := hrel
      by_cases hlt : k < n
      · obtain ⟨x, hx⟩ := some_at (l := l) (k := k) (by have := Hn.out; omega)
        obtain ⟨b, o, ha, hbw, g1, g2, g3⟩ := (h.below hb).rowLease hx
        subst ha
        have Hx := Lib.hid hx
        clear hx
        by_cases t1 : best < pagesAt l x.f
        · have d1 : decide (best < pagesAt l x.f) = true := by simpa using t1
          have Hs := Lib.hid (fold_step hf.out Hx.out)
          rw [peak_yes (.inl t1)] at Hs
          go_wp2_with (go_at_call 37; refine (implPagesAt_any _ _ _ l _ Hn.out hl _ (Rd.below' h (Nat.le_refl _) (hb.alloc hb.size _))).mono ?_; rintro e w2 ⟨rfl, hb2⟩; obtain ⟨bc, bf⟩ := bcell hb2)
          go_roundw
          case rel => exact ⟨k + 1, x.f, pagesAt l x.f, by omega, by go_num, rfl, rfl, Hs, ((hb.alloc hb.size _).trans (hb2.mono (by have := hb.size; simp; omega)))⟩
          case measure => simp [intOf]; omega

        · have d1 : decide (best < pagesAt l x.f) = false := by simpa using t1
          by_cases t2 : pagesAt l x.f = best
          · by_cases t3 : 0 < pagesAt l x.f
            · by_cases t4 : x.f < at0
              · have Hs := Lib.hid (fold_step hf.out Hx.out)
                rw [peak_yes (.inr ⟨t2, t3, t4⟩)] at Hs
                have d2 : (pagesAt l x.f == best) = true := by simpa using t2
                have d4 : decide (x.f < at0) = true := by simpa using t4
                have d3 : decide (0 < pagesAt l x.f) = true := by simpa using t3
                clear t2
                go_wp2_with (go_at_call 37; refine (implPagesAt_any _ _ _ l _ Hn.out hl _ (Rd.below' h (Nat.le_refl _) (hb.alloc hb.size _))).mono ?_; rintro e w2 ⟨rfl, hb2⟩; obtain ⟨bc, bf⟩ := bcell hb2)
                go_roundw
                case rel => exact ⟨k + 1, x.f, pagesAt l x.f, by omega, by go_num, rfl, rfl, Hs, ((hb.alloc hb.size _).trans (hb2.mono (by have := hb.size; simp; omega)))⟩
                case measure => simp [intOf]; omega
              · have Hs := Lib.hid (fold_step hf.out Hx.out)
                rw [peak_no (by intro z; rcases z with z | z; exact t1 z; exact t4 z.2.2)] at Hs
                have d2 : (pagesAt l x.f == best) = true := by simpa using t2
                have d3 : decide (0 < pagesAt l x.f) = true := by simpa using t3
                have d4 : decide (x.f < at0) = false := by simpa using t4
                clear t2
                go_wp2_with (go_at_call 37; refine (implPagesAt_any _ _ _ l _ Hn.out hl _ (Rd.below' h (Nat.le_refl _) (hb.alloc hb.size _))).mono ?_; rintro e w2 ⟨rfl, hb2⟩; obtain ⟨bc, bf⟩ := bcell hb2)
                go_roundw
                case rel => exact ⟨k + 1, at0, best, by omega, by go_num, rfl, rfl, Hs, ((hb.alloc hb.size _).trans (hb2.mono (by have := hb.size; simp; omega)))⟩
                case measure => simp [intOf]; omega
            · have Hs := Lib.hid (fold_step hf.out Hx.out)
              rw [peak_no (by intro z; rcases z with z | z; exact t1 z; exact t3 z.2.1)] at Hs
              have d2 : (pagesAt l x.f == best) = true := by simpa using t2
              have d3 : decide (0 < pagesAt l x.f) = false := by simpa using t3
              clear t2
              go_wp2_with (go_at_call 37; refine (implPagesAt_any _ _ _ l _ Hn.out hl _ (Rd.below' h (Nat.le_refl _) (hb.alloc hb.size _))).mono ?_; rintro e w2 ⟨rfl, hb2⟩; obtain ⟨bc, bf⟩ := bcell hb2)
              go_roundw
              case rel => exact ⟨k + 1, at0, best, by omega, by go_num, rfl, rfl, Hs, ((hb.alloc hb.size _).trans (hb2.mono (by have := hb.size; simp; omega)))⟩
              case measure => simp [intOf]; omega
          · have d2 : (pagesAt l x.f == best) = false := by simpa using t2
            have Hs := Lib.hid (fold_step hf.out Hx.out)
            rw [peak_no (by intro z; rcases z with z | z; exact t1 z; exact t2 z.1)] at Hs
            go_wp2_with (go_at_call 37; refine (implPagesAt_any _ _ _ l _ Hn.out hl _ (Rd.below' h (Nat.le_refl _) (hb.alloc hb.size _))).mono ?_; rintro e w2 ⟨rfl, hb2⟩; obtain ⟨bc, bf⟩ := bcell hb2)
            go_roundw
            case rel => exact ⟨k + 1, at0, best, by omega, by go_num, rfl, rfl, Hs, ((hb.alloc hb.size _).trans (hb2.mono (by have := hb.size; simp; omega)))⟩
            case measure => simp [intOf]; omega

      · go_wp2
        go_ret2
        refine ⟨?_, hb⟩
        rw [peak, fold_end hf.out (by have := Hn.out; omega)]
        rfl

set_option maxHeartbeats 1000000 in
theorem specPeak_any (a : Option Addr) (n cap : Nat) (l : List Lease) (hn : n = l.length) (hl : n ≤ 1048576) (w : World) (h : Rd w a (l.flatMap Lease.enc)) :
    Calls Try.prog 70 #[.slice a n cap] w fun e w' => e = .returned (.tuple #[.int .i64 (peak l).1, .int .i64 (peak l).2]) ∧ Qt w w' := by
  have Hn := Lib.hid hn
  clear hn
  go_enter Try.func70, Try.ntmps70
  go_wp2_with fail
  refine (specLeasesOk_any _ _ _ l Hn.out hl _ h).mono ?_
  rintro e w1 ⟨rfl, hb1⟩
  by_cases hok : leasesOk l = true
  · rw [hok]
    have Hok := Lib.hid hok
    clear hok
    go_wp2
    go_loopw [4, 5, 6] (fun s r i wr => ∃ k : Nat, ∃ at0 best : Int, k ≤ n ∧ i = .int .i64 k ∧ s = .int .i64 at0 ∧ r = .int .i64 best ∧ Hid (l.foldl (peakStep l) (0, 0) = (l.drop k).foldl (peakStep l) (at0, best)) ∧ Qt w wr) (fun _ _ i _ => n - (intOf i).toNat)
    case atStart => exact ⟨0, 0, 0, Nat.zero_le _, rfl, rfl, rfl, rfl, hb1⟩
    case round =>
        obtain ⟨k, at0, best, hk, rfl, rfl, rfl, hf, hb⟩ := hrel
        by_cases hlt : k < n
        · obtain ⟨x, hx⟩ := some_at (l := l) (k := k) (by have := Hn.out; omega)
          obtain ⟨m, rfl⟩ := hb
          obtain ⟨b, o, ha, hbw, g1, g2, g3⟩ := h.rowLease hx
          subst ha
          have Hx := Lib.hid hx
          clear hx
          by_cases t1 : best < pagesAt l x.f
          · have d1 : decide (best < pagesAt l x.f) = true := by simpa using t1
            have Hs := Lib.hid (fold_step hf.out Hx.out)
            rw [peak_yes (.inl t1)] at Hs
            go_wp2_with (go_at_call 108; refine (specPagesAt_any _ _ _ l _ Hn.out hl _ (h.drewN _)).mono ?_; rintro e w2 ⟨rfl, m2, rfl⟩)
            go_roundw
            case rel => exact ⟨k + 1, x.f, pagesAt l x.f, by omega, by go_num, rfl, rfl, Hs, (by first | exact Qt.d _ _ | exact Qt.dd _ _ _)⟩
            case measure => simp [intOf]; omega

          · have d1 : decide (best < pagesAt l x.f) = false := by simpa using t1
            by_cases t2 : pagesAt l x.f = best
            · by_cases t3 : 0 < pagesAt l x.f
              · by_cases t4 : x.f < at0
                · have Hs := Lib.hid (fold_step hf.out Hx.out)
                  rw [peak_yes (.inr ⟨t2, t3, t4⟩)] at Hs
                  have d2 : (pagesAt l x.f == best) = true := by simpa using t2
                  have d4 : decide (x.f < at0) = true := by simpa using t4
                  have d3 : decide (0 < pagesAt l x.f) = true := by simpa using t3
                  clear t2
                  go_wp2_with (go_at_call 108; refine (specPagesAt_any _ _ _ l _ Hn.out hl _ (h.drewN _)).mono ?_; rintro e w2 ⟨rfl, m2, rfl⟩)
                  go_roundw
                  case rel => exact ⟨k + 1, x.f, pagesAt l x.f, by omega, by go_num, rfl, rfl, Hs, (by first | exact Qt.d _ _ | exact Qt.dd _ _ _)⟩
                  case measure => simp [intOf]; omega
                · have Hs := Lib.hid (fold_step hf.out Hx.out)
                  rw [peak_no (by intro z; rcases z with z | z; exact t1 z; exact t4 z.2.2)] at Hs
                  have d2 : (pagesAt l x.f == best) = true := by simpa using t2
                  have d3 : decide (0 < pagesAt l x.f) = true := by simpa using t3
                  have d4 : decide (x.f < at0) = false := by simpa using t4
                  clear t2
                  go_wp2_with (go_at_call 108; refine (specPagesAt_any _ _ _ l _ Hn.out hl _ (h.drewN _)).mono ?_; rintro e w2 ⟨rfl, m2, rfl⟩)
                  go_roundw
                  case rel => exact ⟨k + 1, at0, best, by omega, by go_num, rfl, rfl, Hs, (by first | exact Qt.d _ _ | exact Qt.dd _ _ _)⟩
                  case measure => simp [intOf]; omega
              · have Hs := Lib.hid (fold_step hf.out Hx.out)
                rw [peak_no (by intro z; rcases z with z | z; exact t1 z; exact t3 z.2.1)] at Hs
                have d2 : (pagesAt l x.f == best) = true := by simpa using t2
                have d3 : decide (0 < pagesAt l x.f) = false := by simpa using t3
                clear t2
                go_wp2_with (go_at_call 108; refine (specPagesAt_any _ _ _ l _ Hn.out hl _ (h.drewN _)).mono ?_; rintro e w2 ⟨rfl, m2, rfl⟩)
                go_roundw
                case rel => exact ⟨k + 1, at0, best, by omega, by go_num, rfl, rfl, Hs, (by first | exact Qt.d _ _ | exact Qt.dd _ _ _)⟩
                case measure => simp [intOf]; omega
            · have d2 : (pagesAt l x.f == best) = false := by simpa using t2
              have Hs := Lib.hid (fold_step hf.out Hx.out)
              rw [peak_no (by intro z; rcases z with z | z; exact t1 z; exact t2 z.1)] at Hs
              go_wp2_with (go_at_call 108; refine (specPagesAt_any _ _ _ l _ Hn.out hl _ (h.drewN _)).mono ?_; rintro e w2 ⟨rfl, m2, rfl⟩)
              go_roundw
              case rel => exact ⟨k + 1, at0, best, by omega, by go_num, rfl, rfl, Hs, (by first | exact Qt.d _ _ | exact Qt.dd _ _ _)⟩
              case measure => simp [intOf]; omega

        · go_wp2
          go_ret2
          refine ⟨?_, hb⟩
          rw [peak, fold_end hf.out (by have := Hn.out; omega)]
          rfl
  · have hok' : leasesOk l = false := by simpa using hok
    rw [hok']
    go_wp2
    go_ret2
    exact ⟨by rw [peak_bad hok']; rfl, hb1⟩
end Go.Proofs.Ytclananddmjnaaa
