/- Leases: LeaseCost and PagesAt of both sides. -/
import Derived.Test.YtclananddmjnaaaLease
namespace Go.Proofs.Ytclananddmjnaaa
open Go.RowKit

def costStep (a : Int) (x : Lease) : Int := a + x.p * (x.u - x.f)
def leaseCost (l : List Lease) : Int := if leasesOk l then l.foldl costStep 0 else 0
def pagesStep (t : Int) (a : Int) (x : Lease) : Int := if x.f ≤ t ∧ t < x.u then a + x.p else a
def pagesAt (l : List Lease) (t : Int) : Int := if leasesOk l then l.foldl (pagesStep t) 0 else 0

theorem lease_bounds {l : List Lease} (h : leasesOk l = true) : l.length ≤ 20 ∧ ∀ (k : Nat) (x : Lease), l[k]? = some x → 0 ≤ x.p ∧ x.p ≤ 1000 ∧ 0 ≤ x.f ∧ x.f ≤ x.u ∧ x.u ≤ 1000000 := by
  unfold leasesOk at h
  simp only [Bool.and_eq_true, decide_eq_true_eq, List.all_eq_true] at h
  refine ⟨h.2, fun k x hx => ?_⟩
  have := h.1 x (List.mem_of_getElem? hx)
  simp only [Lease.ok, Bool.and_eq_true, inB_true] at this
  omega

theorem cost_bound {x : Lease} (h : 0 ≤ x.p ∧ x.p ≤ 1000 ∧ 0 ≤ x.f ∧ x.f ≤ x.u ∧ x.u ≤ 1000000) : 0 ≤ x.p * (x.u - x.f) ∧ x.p * (x.u - x.f) ≤ 1000000000 := by
  obtain ⟨h1, h2, h3, h4, h5⟩ := h
  have a : x.p * (x.u - x.f) ≤ 1000 * (x.u - x.f) := Int.mul_le_mul_of_nonneg_right h2 (by omega)
  exact ⟨Int.mul_nonneg h1 (by omega), by omega⟩

set_option maxHeartbeats 400000 in
theorem implLeaseCost_any (a : Option Addr) (n cap : Nat) (l : List Lease) (hn : n = l.length) (hl : n ≤ 1048576) (w : World) (h : Rd w a (l.flatMap Lease.enc)) :
    Calls Try.prog 36 #[.slice a n cap] w fun e w' => e = .returned (.int .i64 (leaseCost l)) ∧ Below w.heap.size w w' := by
  have Hn := Lib.hid hn
  clear hn
  go_enter Try.func36, Try.ntmps36
  go_wp2_with fail
  refine (implLeasesOk_any _ _ _ l Hn.out hl _ h).mono ?_
  rintro e w1 ⟨rfl, hb1⟩
  by_cases hok : leasesOk l = true
  · have hlb := lease_bounds hok
    rw [hok]
    go_wp2
    go_loopw [3, 12] (fun s i wr => ∃ k : Nat, ∃ acc : Int, k ≤ n ∧ i = .int .i64 k ∧ s = .int .i64 acc ∧ 0 ≤ acc ∧ acc ≤ k * 1000000000 ∧ Hid (l.foldl costStep 0 = (l.drop k).foldl costStep acc) ∧ Below w.heap.size w wr) (fun _ i _ => n - (intOf i).toNat)
    case atStart => exact ⟨0, 0, Nat.zero_le _, rfl, rfl, by omega, by omega, rfl, hb1⟩
    case round =>
      obtain ⟨k, acc, hk, rfl, rfl, ha0, ha1, hf, hb⟩ := hrel
      by_cases hlt : k < n
      · obtain ⟨x, hx⟩ := some_at (l := l) (k := k) (by have := Hn.out; omega)
        have hr := h.below hb
        obtain ⟨b, o, rfl, hbw, g1, g2, g3⟩ := hr.rowLease hx
        have hxb := hlb.2 k x hx
        obtain ⟨m1, m2⟩ := cost_bound hxb
        have h20 : n ≤ 20 := by have := Hn.out; have := hlb.1; omega
        obtain ⟨x1, x2, x3, x4, x5⟩ := hxb
        have Hx := Lib.hid hx
        have Hok := Lib.hid hok
        clear hx hr h hlb hok
        go_wp2
        go_roundw
        case rel => exact ⟨k + 1, acc + x.p * (x.u - x.f), by omega, by go_num, rfl, by omega, by omega, fold_step hf.out Hx.out, hb.alloc hb.size _⟩
        case measure => simp [intOf]; omega
      · have Hok := Lib.hid hok
        clear hok hlb
        go_wp2
        go_ret
        refine ⟨ret_int ?_, hb⟩
        rw [leaseCost, Hok.out, if_pos rfl, fold_end hf.out (by have := Hn.out; omega)]
  · have hok' : leasesOk l = false := by simpa using hok
    rw [hok']
    go_wp2
    go_ret
    exact ⟨ret_int (by rw [leaseCost, if_neg hok]), hb1⟩
end Go.Proofs.Ytclananddmjnaaa
