/- l1PickInt; DrawRenewals. -/
import Derived.Test.YtabbncoihmhocaaDraw
namespace Go.Proofs.Ytabbncoihmhocaa
open Go.RowKit

def Picked (vs : List Int) (cb : Nat) (a : Option Addr) (n cap : Nat) (w : World) (e : Ending) (w' : World) : Prop :=
  ∃ x : Int, x ∈ vs ∧ e = .returned (.int .i64 x) ∧ CurAt w' cb a n cap ∧ w.grownBy w' (some cb)

set_option maxRecDepth 100000 in
set_option maxHeartbeats 1000000 in
theorem l1PickInt_any (cb : Nat) (a : Option Addr) (n cap : Nat) (l : List UInt8) (hn : n = l.length) (hl : n ≤ 1048576) (g k : Nat) (vs : List Int) (hk : k = vs.length) (hk1 : 1 ≤ k) (hk2 : k ≤ 256) (w : World) (h : Rd w a (byteCells l)) (hc : CurAt w cb a n cap) (hne : ∀ b o, a = some ⟨b, o, none⟩ → l ≠ [] → b ≠ cb)
    (hg : ∀ i, i < k → w.cell? ⟨g, i, none⟩ = some (.int .i64 (vs.getD i 0))) (hgc : g ≠ cb) :
    Calls Try.prog 47 #[.pointer (some ⟨cb, 0, none⟩), .slice (some ⟨g, 0, none⟩) k k] w (Picked vs cb a n cap w) := by
  have Hn := Lib.hid hn
  have Hc := Lib.hid hc
  have Hne := hideP hne
  have Hg := hideP hg
  have Hk := Lib.hid hk
  clear hn hc hne hg hk
  go_enter Try.func47, Try.ntmps47
  go_wp2_with fail
  refine (l1Below_any cb a n cap l Hn.out hl k (by omega) (by omega) _ h Hc.out Hne.out).mono ?_
  rintro e w1 ⟨x, rfl, hx0, hx1, hc1, hg1⟩
  have Hc1 := Lib.hid hc1
  have Hg1 := Lib.hid hg1
  clear hc1 hg1
  obtain ⟨q, rfl⟩ := Int.eq_ofNat_of_zero_le hx0
  have hq : q < k := by omega
  have c1 := Hg1.out.cell (Hg.out q hq) (by simpa using hgc)
  go_wp2
  go_ret
  refine ⟨_, ?_, rfl, Hc1.out, Hg1.out⟩
  have hq' : q < vs.length := by have := Hk.out; omega
  first
  | (rw [List.getD_eq_getElem?_getD, List.getElem?_eq_getElem hq']; exact List.getElem_mem hq')
  | (rw [List.getElem?_eq_getElem hq']; exact List.getElem_mem hq')
end Go.Proofs.Ytabbncoihmhocaa
