/- Leases: LeasesOk of both sides answers leasesOk. -/
import Derived.Test.YtclananddmjnaaaLeaseTo
namespace Go.Proofs.Ytclananddmjnaaa
open Go.RowKit

def Lease.ok (x : Lease) : Bool := inB x.p 0 1000 && (inB x.f 0 1000000 && inB x.u x.f 1000000)
def leasesOk (l : List Lease) : Bool := l.all Lease.ok && decide (l.length ≤ 20)

set_option maxHeartbeats 400000 in
theorem implLeasesOk_any (a : Option Addr) (n cap : Nat) (l : List Lease) (hn : n = l.length) (hl : n ≤ 1048576) (w : World) (h : Rd w a (l.flatMap Lease.enc)) :
    Calls Try.prog 72 #[.slice a n cap] w fun e w' => e = .returned (.bool (leasesOk l)) ∧ Below w.heap.size w w' := by
  have Hn := Lib.hid hn
  clear hn
  go_enter Try.func72, Try.ntmps72
  go_wp2
  go_loopw [2, 4, 7] (fun r x i wr => ∃ k : Nat, k ≤ n ∧ i = .int .i64 k ∧ r = .bool false ∧ Hid (l.all Lease.ok = (l.drop k).all Lease.ok) ∧ Below w.heap.size w wr) (fun _ _ i _ => n - (intOf i).toNat)
  case atStart => exact ⟨0, Nat.zero_le _, rfl, rfl, rfl, Below.refl _ _⟩
  case round =>
    obtain ⟨k, hk, rfl, rfl, hall, hb⟩ := hrel
    by_cases hlt : k < n
    · obtain ⟨x, hx⟩ := some_at (l := l) (k := k) (by have := Hn.out; omega)
      have hr := h.below hb
      obtain ⟨b, o, rfl, hbw, g1, g2, g3⟩ := hr.rowLease hx
      have Hx := Lib.hid hx
      clear hx hr h
      go_wp2_with (first | (go_at_call 76; refine (within_any _ _ _ _).mono ?_; rintro e w' ⟨rfl, rfl⟩) | (go_at_call 109; refine (isTime_any _ _).mono ?_; rintro e w' ⟨rfl, rfl⟩))
      all_goals first
        | (go_roundw
           case rel => exact ⟨k + 1, by omega, by go_num, rfl, all_good hall.out Hx.out (by simp_all [Lease.ok]), (hb.alloc hb.size _)⟩
           case measure => simp [intOf]; omega)
        | (go_ret
           refine ⟨ret_bool ?_, (hb.alloc hb.size _)⟩
           rw [leasesOk, all_bad hall.out Hx.out (by simp_all [Lease.ok])]
           rfl)
    · go_wp2
      go_ret
      refine ⟨ret_bool ?_, hb⟩
      have hkn : l.length ≤ k := by have := Hn.out; omega
      have hn := Hn.out
      rw [leasesOk, hall.out, List.drop_eq_nil_of_le hkn]
      simp [hn]
      omega

/-- The five tests of spec.LeasesOk's region, decided ahead. -/
theorem Lease.ok_cases (x : Lease) : (inB x.p 0 1000 = true ∧ inB x.f 0 1000000 = true ∧ inB x.u x.f 1000000 = true ∧ x.ok = true) ∨
    (inB x.p 0 1000 = true ∧ inB x.f 0 1000000 = true ∧ inB x.u x.f 1000000 = false ∧ x.ok = false) ∨
    (inB x.p 0 1000 = true ∧ inB x.f 0 1000000 = false ∧ x.ok = false) ∨ (inB x.p 0 1000 = false ∧ x.ok = false) := by
  unfold Lease.ok
  cases inB x.p 0 1000 <;> cases inB x.f 0 1000000 <;> cases inB x.u x.f 1000000 <;> simp

set_option maxHeartbeats 400000 in
theorem specLeasesOk_any (a : Option Addr) (n cap : Nat) (l : List Lease) (hn : n = l.length) (hl : n ≤ 1048576) (w : World) (h : Rd w a (l.flatMap Lease.enc)) :
    Calls Try.prog 35 #[.slice a n cap] w fun e w' => e = .returned (.bool (leasesOk l)) ∧ Qt w w' := by
  have Hn := Lib.hid hn
  clear hn
  by_cases h20 : n ≤ 20
  · go_enter Try.func35, Try.ntmps35
    go_wp2
    go_loopw [2, 3] (fun r i wr => ∃ k : Nat, k ≤ n ∧ i = .int .i64 k ∧ r = .bool false ∧ Hid (l.all Lease.ok = (l.drop k).all Lease.ok) ∧ Qt w wr) (fun _ i _ => n - (intOf i).toNat)
    case atStart => exact ⟨0, Nat.zero_le _, rfl, rfl, rfl, Qt.refl _⟩
    case round =>
      obtain ⟨k, hk, rfl, rfl, hall, hb⟩ := hrel
      by_cases hlt : k < n
      · obtain ⟨x, hx⟩ := some_at (l := l) (k := k) (by have := Hn.out; omega)
        obtain ⟨m, rfl⟩ := hb
        obtain ⟨b, o, rfl, hbw, g1, g2, g3⟩ := h.rowLease hx
        have Hx := Lib.hid hx
        clear hx h
        obtain ⟨t1, t2, t3, hok⟩ | ⟨t1, t2, t3, hok⟩ | ⟨t1, t2, hok⟩ | ⟨t1, hok⟩ := x.ok_cases
        all_goals
          have Hok := Lib.hid hok
          clear hok
          go_wp2
          go_quiet ((go_at_call 66; exact quietS (l1In_any _ _ _ _)))
          go_wp2
          first
          | (go_roundw
             case rel => exact ⟨k + 1, by omega, by go_num, rfl, all_good hall.out Hx.out Hok.out, (by first | exact Qt.d _ _ | exact Qt.dd _ _ _)⟩
             case measure => simp [intOf]; omega)
          | (go_ret
             refine ⟨ret_bool ?_, (by first | exact Qt.d _ _ | exact Qt.dd _ _ _)⟩
             rw [leasesOk, all_bad hall.out Hx.out Hok.out]
             rfl)
      · go_wp2
        go_ret
        refine ⟨ret_bool ?_, hb⟩
        have hkn : l.length ≤ k := by have := Hn.out; omega
        have hn := Hn.out
        rw [leasesOk, hall.out, List.drop_eq_nil_of_le hkn]
        simp
        omega
  · go_enter Try.func35, Try.ntmps35
    go_wp2
    go_ret
    have hn := Hn.out
    refine ⟨ret_bool ?_, Qt.refl _⟩
    rw [leasesOk]
    simp
    omega
end Go.Proofs.Ytclananddmjnaaa
