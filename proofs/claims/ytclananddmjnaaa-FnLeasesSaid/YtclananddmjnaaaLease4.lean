/- Leases: FirstShort of both sides. -/
import Derived.Test.YtclananddmjnaaaLease3
namespace Go.Proofs.Ytclananddmjnaaa
open Go.RowKit

def shortStep (l : List Lease) (pages : Int) (a : Int) (x : Lease) : Int := if pages < pagesAt l x.f ∧ (a < 0 ∨ x.f < a) then x.f else a
def firstShort (l : List Lease) (pages : Int) : Int := if leasesOk l then l.foldl (shortStep l pages) (-1) else -1
theorem short_yes {l : List Lease} {p a : Int} {x : Lease} (h1 : p < pagesAt l x.f) (h2 : a < 0 ∨ x.f < a) : shortStep l p a x = x.f := by unfold shortStep; rw [if_pos ⟨h1, h2⟩]
theorem short_no {l : List Lease} {p a : Int} {x : Lease} (h : ¬ (p < pagesAt l x.f ∧ (a < 0 ∨ x.f < a))) : shortStep l p a x = a := by unfold shortStep; rw [if_neg h]

set_option maxHeartbeats 1000000 in
theorem implFirstShort_any (a : Option Addr) (n cap : Nat) (l : List Lease) (p : Int) (hn : n = l.length) (hl : n ≤ 1048576) (w : World) (h : Rd w a (l.flatMap Lease.enc)) :
    Calls Try.prog 39 #[.slice a n cap, .int .i64 p] w fun e w' => e = .returned (.int .i64 (firstShort l p)) ∧ Below w.heap.size w w' := by
  have Hn := Lib.hid hn
  clear hn
  go_enter Try.func39, Try.ntmps39
  go_wp2_with fail
  refine (implLeasesOk_any _ _ _ l Hn.out hl _ h).mono ?_
  rintro e w1 ⟨rfl, hb1⟩
  by_cases hok : leasesOk l = true
  · have hlb := lease_bounds hok
    rw [hok]
    go_wp2
    go_loopw [5, 14] (fun s i wr => ∃ k : Nat, ∃ acc : Int, k ≤ n ∧ i = .int .i64 k ∧ s = .int .i64 acc ∧ -1 ≤ acc ∧ acc ≤ 1000000 ∧ Hid (l.foldl (shortStep l p) (-1) = (l.drop k).foldl (shortStep l p) acc) ∧ Below w.heap.size w wr) (fun _ i _ => n - (intOf i).toNat)
    case atStart => exact ⟨0, -1, Nat.zero_le _, rfl, rfl, by omega, by omega, rfl, hb1⟩
    case round =>
      obtain ⟨k, acc, hk, rfl, rfl, ha0, ha1, hf, hb⟩ := hrel
      by_cases hlt : k < n
      · obtain ⟨x, hx⟩ := some_at (l := l) (k := k) (by have := Hn.out; omega)
        have hxb := hlb.2 k x hx
        have h20 : n ≤ 20 := by have := Hn.out; have := hlb.1; omega
        obtain ⟨b, o, ha, hbw, g1, g2, g3⟩ := (h.below hb).rowLease hx
        subst ha
        obtain ⟨x1, x2, x3, x4, x5⟩ := hxb
        have Hx := Lib.hid hx
        have Hok := Lib.hid hok
        clear hx hlb hok
        by_cases t1 : p < pagesAt l x.f
        · have d1 : decide (p < pagesAt l x.f) = true := by simpa using t1
          by_cases t2 : acc < 0
          · have d2 : decide (acc < 0) = true := by simpa using t2
            have Hs := Lib.hid (fold_step hf.out Hx.out)
            rw [short_yes t1 (.inl t2)] at Hs
            go_wp2_with (go_at_call 37; refine (implPagesAt_any _ _ _ l _ Hn.out hl _ (Rd.below' h (Nat.le_refl _) (hb.alloc hb.size _))).mono ?_; rintro e w2 ⟨rfl, hb2⟩; obtain ⟨bc, bf⟩ := bcell hb2)
            go_roundw
            case rel => exact ⟨k + 1, x.f, by omega, by go_num, rfl, by omega, by omega, Hs, ((hb.alloc hb.size _).trans (hb2.mono (by have := hb.size; simp; omega)))⟩
            case measure => simp [intOf]; omega

          · have d2 : decide (acc < 0) = false := by simpa using t2
            by_cases t3 : x.f < acc
            · have d3 : decide (x.f < acc) = true := by simpa using t3
              have Hs := Lib.hid (fold_step hf.out Hx.out)
              rw [short_yes t1 (.inr t3)] at Hs
              go_wp2_with (go_at_call 37; refine (implPagesAt_any _ _ _ l _ Hn.out hl _ (Rd.below' h (Nat.le_refl _) (hb.alloc hb.size _))).mono ?_; rintro e w2 ⟨rfl, hb2⟩; obtain ⟨bc, bf⟩ := bcell hb2)
              go_roundw
              case rel => exact ⟨k + 1, x.f, by omega, by go_num, rfl, by omega, by omega, Hs, ((hb.alloc hb.size _).trans (hb2.mono (by have := hb.size; simp; omega)))⟩
              case measure => simp [intOf]; omega

            · have d3 : decide (x.f < acc) = false := by simpa using t3
              have Hs := Lib.hid (fold_step hf.out Hx.out)
              rw [short_no (by omega)] at Hs
              go_wp2_with (go_at_call 37; refine (implPagesAt_any _ _ _ l _ Hn.out hl _ (Rd.below' h (Nat.le_refl _) (hb.alloc hb.size _))).mono ?_; rintro e w2 ⟨rfl, hb2⟩; obtain ⟨bc, bf⟩ := bcell hb2)
              go_roundw
              case rel => exact ⟨k + 1, acc, by omega, by go_num, rfl, by omega, by omega, Hs, ((hb.alloc hb.size _).trans (hb2.mono (by have := hb.size; simp; omega)))⟩
              case measure => simp [intOf]; omega

        · have d1 : decide (p < pagesAt l x.f) = false := by simpa using t1
          have Hs := Lib.hid (fold_step hf.out Hx.out)
          rw [short_no (fun z => t1 z.1)] at Hs
          go_wp2_with (go_at_call 37; refine (implPagesAt_any _ _ _ l _ Hn.out hl _ (Rd.below' h (Nat.le_refl _) (hb.alloc hb.size _))).mono ?_; rintro e w2 ⟨rfl, hb2⟩; obtain ⟨bc, bf⟩ := bcell hb2)
          go_roundw
          case rel => exact ⟨k + 1, acc, by omega, by go_num, rfl, by omega, by omega, Hs, ((hb.alloc hb.size _).trans (hb2.mono (by have := hb.size; simp; omega)))⟩
          case measure => simp [intOf]; omega

      · have Hok := Lib.hid hok
        clear hok hlb
        go_wp2
        go_ret
        refine ⟨ret_int ?_, hb⟩
        rw [firstShort, Hok.out, if_pos rfl, fold_end hf.out (by have := Hn.out; omega)]
  · have hok' : leasesOk l = false := by simpa using hok
    rw [hok']
    go_wp2
    go_ret
    exact ⟨ret_int (by rw [firstShort, if_neg hok]), hb1⟩
end Go.Proofs.Ytclananddmjnaaa
