/- Leases: PagesAt of both sides. -/
import Derived.Test.YtclananddmjnaaaLease2
namespace Go.Proofs.Ytclananddmjnaaa
open Go.RowKit

theorem pages_yes {t acc : Int} {x : Lease} (h1 : x.f ≤ t) (h2 : t < x.u) : pagesStep t acc x = acc + x.p := by unfold pagesStep; rw [if_pos ⟨h1, h2⟩]
theorem pages_no {t acc : Int} {x : Lease} (h : t < x.f ∨ x.u ≤ t) : pagesStep t acc x = acc := by unfold pagesStep; rw [if_neg (by omega)]

set_option maxHeartbeats 800000 in
theorem implPagesAt_any (a : Option Addr) (n cap : Nat) (l : List Lease) (t : Int) (hn : n = l.length) (hl : n ≤ 1048576) (w : World) (h : Rd w a (l.flatMap Lease.enc)) :
    Calls Try.prog 37 #[.slice a n cap, .int .i64 t] w fun e w' => e = .returned (.int .i64 (pagesAt l t)) ∧ Below w.heap.size w w' := by
  have Hn := Lib.hid hn
  clear hn
  go_enter Try.func37, Try.ntmps37
  go_wp2_with fail
  refine (implLeasesOk_any _ _ _ l Hn.out hl _ h).mono ?_
  rintro e w1 ⟨rfl, hb1⟩
  by_cases hok : leasesOk l = true
  · have hlb := lease_bounds hok
    rw [hok]
    go_wp2
    go_loopw [5, 14] (fun s i wr => ∃ k : Nat, ∃ acc : Int, k ≤ n ∧ i = .int .i64 k ∧ s = .int .i64 acc ∧ 0 ≤ acc ∧ acc ≤ k * 1000 ∧ Hid (l.foldl (pagesStep t) 0 = (l.drop k).foldl (pagesStep t) acc) ∧ Below w.heap.size w wr) (fun _ i _ => n - (intOf i).toNat)
    case atStart => exact ⟨0, 0, Nat.zero_le _, rfl, rfl, by omega, by omega, rfl, hb1⟩
    case round =>
      obtain ⟨k, acc, hk, rfl, rfl, ha0, ha1, hf, hb⟩ := hrel
      by_cases hlt : k < n
      · obtain ⟨x, hx⟩ := some_at (l := l) (k := k) (by have := Hn.out; omega)
        have hr := h.below hb
        obtain ⟨b, o, rfl, hbw, g1, g2, g3⟩ := hr.rowLease hx
        have hxb := hlb.2 k x hx
        have h20 : n ≤ 20 := by have := Hn.out; have := hlb.1; omega
        obtain ⟨x1, x2, x3, x4, x5⟩ := hxb
        have Hx := Lib.hid hx
        have Hok := Lib.hid hok
        clear hx hr h hlb hok
        by_cases t1 : x.f ≤ t
        · by_cases t2 : t < x.u
          · have Hs := Lib.hid (fold_step hf.out Hx.out)
            rw [pages_yes t1 t2] at Hs
            go_wp2
            go_roundw
            case rel => exact ⟨k + 1, acc + x.p, by omega, by go_num, rfl, by omega, by omega, Hs, hb.alloc hb.size _⟩
            case measure => simp [intOf]; omega
          · have Hs := Lib.hid (fold_step hf.out Hx.out)
            rw [pages_no (by omega)] at Hs
            go_wp2
            go_roundw
            case rel => exact ⟨k + 1, acc, by omega, by go_num, rfl, by omega, by omega, Hs, hb.alloc hb.size _⟩
            case measure => simp [intOf]; omega
        · have Hs := Lib.hid (fold_step hf.out Hx.out)
          rw [pages_no (by omega)] at Hs
          go_wp2
          go_roundw
          case rel => exact ⟨k + 1, acc, by omega, by go_num, rfl, by omega, by omega, Hs, hb.alloc hb.size _⟩
          case measure => simp [intOf]; omega
      · have Hok := Lib.hid hok
        clear hok hlb
        go_wp2
        go_ret
        refine ⟨ret_int ?_, hb⟩
        rw [pagesAt, Hok.out, if_pos rfl, fold_end hf.out (by have := Hn.out; omega)]
  · have hok' : leasesOk l = false := by simpa using hok
    rw [hok']
    go_wp2
    go_ret
    exact ⟨ret_int (by rw [pagesAt, if_neg hok]), hb1⟩

set_option maxHeartbeats 800000 in
theorem specPagesAt_any (a : Option Addr) (n cap : Nat) (l : List Lease) (t : Int) (hn : n = l.length) (hl : n ≤ 1048576) (w : World) (h : Rd w a (l.flatMap Lease.enc)) :
    Calls Try.prog 108 #[.slice a n cap, .int .i64 t] w fun e w' => e = .returned (.int .i64 (pagesAt l t)) ∧ Qt w w' := by
  have Hn := Lib.hid hn
  clear hn
  go_enter Try.func108, Try.ntmps108
  go_wp2_with fail
  refine (specLeasesOk_any _ _ _ l Hn.out hl _ h).mono ?_
  rintro e w1 ⟨rfl, hb1⟩
  by_cases hok : leasesOk l = true
  · have hlb := lease_bounds hok
    rw [hok]
    go_wp2
    go_loopw [5, 6] (fun s i wr => ∃ k : Nat, ∃ acc : Int, k ≤ n ∧ i = .int .i64 k ∧ s = .int .i64 acc ∧ 0 ≤ acc ∧ acc ≤ k * 1000 ∧ Hid (l.foldl (pagesStep t) 0 = (l.drop k).foldl (pagesStep t) acc) ∧ Qt w wr) (fun _ i _ => n - (intOf i).toNat)
    case atStart => exact ⟨0, 0, Nat.zero_le _, rfl, rfl, by omega, by omega, rfl, hb1⟩
    case round =>
      obtain ⟨k, acc, hk, rfl, rfl, ha0, ha1, hf, hb⟩ := hrel
      by_cases hlt : k < n
      · obtain ⟨x, hx⟩ := some_at (l := l) (k := k) (by have := Hn.out; omega)
        obtain ⟨m, rfl⟩ := hb
        obtain ⟨b, o, rfl, hbw, g1, g2, g3⟩ := h.rowLease hx
        have hxb := hlb.2 k x hx
        have h20 : n ≤ 20 := by have := Hn.out; have := hlb.1; omega
        obtain ⟨x1, x2, x3, x4, x5⟩ := hxb
        have Hx := Lib.hid hx
        have Hok := Lib.hid hok
        clear hx h hlb hok
        by_cases t1 : x.f ≤ t
        · by_cases t2 : t < x.u
          · have Hs := Lib.hid (fold_step hf.out Hx.out)
            rw [pages_yes t1 t2] at Hs
            go_wp2
            go_roundw
            case rel => exact ⟨k + 1, acc + x.p, by omega, by go_num, rfl, by omega, by omega, Hs, (by first | exact Qt.d _ _ | exact Qt.dd _ _ _)⟩
            case measure => simp [intOf]; omega
          · have Hs := Lib.hid (fold_step hf.out Hx.out)
            rw [pages_no (by omega)] at Hs
            go_wp2
            go_roundw
            case rel => exact ⟨k + 1, acc, by omega, by go_num, rfl, by omega, by omega, Hs, (by first | exact Qt.d _ _ | exact Qt.dd _ _ _)⟩
            case measure => simp [intOf]; omega
        · have Hs := Lib.hid (fold_step hf.out Hx.out)
          rw [pages_no (by omega)] at Hs
          go_wp2
          go_roundw
          case rel => exact ⟨k + 1, acc, by omega, by go_num, rfl, by omega, by omega, Hs, (by first | exact Qt.d _ _ | exact Qt.dd _ _ _)⟩
          case measure => simp [intOf]; omega
      · have Hok := Lib.hid hok
        clear hok hlb
        go_wp2
        go_ret
        refine ⟨ret_int ?_, hb⟩
        rw [pagesAt, Hok.out, if_pos rfl, fold_end hf.out (by have := Hn.out; omega)]
  · have hok' : leasesOk l = false := by simpa using hok
    rw [hok']
    go_wp2
    go_ret
    exact ⟨ret_int (by rw [pagesAt, if_neg hok]), hb1⟩
end Go.Proofs.Ytclananddmjnaaa
