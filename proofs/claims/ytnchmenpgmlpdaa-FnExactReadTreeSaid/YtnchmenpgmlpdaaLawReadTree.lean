/- The walk of FnExactReadTree. -/
import Derived.ChangeMaps5
import Derived.Test.YtnchmenpgmlpdaaReadTreeI
import Derived.Test.YtnchmenpgmlpdaaReadTreeS
namespace Go.Proofs.Ytnchmenpgmlpdaa
open Go.RowKit

def treeRes (l : List UInt8) : List Res := (readTree l).getD []
theorem TreeRet.two {w w' : World} {l : List UInt8} {e : Ending} (h : TreeRet w l e w') : OwnRet2 w 122 5 (treeRes l).length ((treeRes l).flatMap Res.enc) (readTree l).isSome e w' := by
  unfold TreeRet at h
  unfold treeRes
  cases hr : readTree l with
  | none => rw [hr] at h; exact h
  | some u =>
    rw [hr] at h
    show OwnRet2 w 122 5 u.length (u.flatMap Res.enc) true e w'
    rw [(readTree_ok hr).2.2]; exact h
theorem treeRes_len (l : List UInt8) : (treeRes l).length ≤ 1048576 := by
  unfold treeRes
  cases hr : readTree l with
  | none => simp
  | some u => show u.length ≤ _; rw [(readTree_ok hr).2.2]; decide
theorem specReadTree_two (s : ByteArray) (hs : s.size ≤ maxLen) (w : World) : Calls Try.prog 35 #[.string s] w (OwnRet2 w 122 5 (treeRes (bl s)).length ((treeRes (bl s)).flatMap Res.enc) (readTree (bl s)).isSome) := (specReadTree_any s hs w).mono fun _ _ h => TreeRet.two h
theorem implReadTree_two (s : ByteArray) (hs : s.size ≤ maxLen) (w : World) : Calls Try.prog 36 #[.string s] w (OwnRet2 w 122 5 (treeRes (bl s)).length ((treeRes (bl s)).flatMap Res.enc) (readTree (bl s)).isSome) := (implReadTree_any s hs w).mono fun _ _ h => TreeRet.two h

set_option maxRecDepth 100000 in
set_option maxHeartbeats 1000000 in
theorem lawFnExactReadTree_walk (a0 : ByteArray) (_w0 : a0.size ≤ maxLen) (w : World) :
    Calls Try.prog 7 #[.string a0] w fun e w' => e = .returned (.bool true) ∧ Below w.heap.size w w' := by
  have hn : (treeRes (bl a0)).length ≤ 1048576 := treeRes_len _
  have HM := hideP _w0
  have hm := _w0
  unfold maxLen at hm
  by_cases hs : a0.size ≤ 1048576
  · go_enter Try.func7, Try.ntmps7
    go_wp2_with fail
    refine (specReadTree_two a0 HM.out _).mono ?_
    rintro e w1 ⟨v0, rfl, ho0, hb1⟩
    obtain ⟨p0, c0, rfl, _⟩ := owns_slice ho0
    have Ho0 := Lib.hid ho0
    clear ho0
    go_wp2_with fail
    refine (implReadTree_two a0 HM.out _).mono ?_
    rintro e w2 ⟨v1, rfl, ho1, hb2⟩
    obtain ⟨p1, c1, rfl, _⟩ := owns_slice ho1
    have Ho1 := Lib.hid ho1
    clear ho1
    have h02 := hb1.trans (hb2.mono hb1.size)
    have s01 := hb1.size
    have s12 := hb2.size
    go_wp2_with fail
    refine (eqResS_any _ _ _ _ _ (treeRes (bl a0)) rfl hn _ (rd_of_owns Ho1.out) (rd_of_owns (owns_below Ho0.out (Nat.le_refl _) hb2))).mono ?_
    rintro e w3 ⟨rfl, hb3⟩
    have h03 := h02.trans (hb3.mono h02.size)
    have s23 := hb3.size
    have Ho1' := Lib.hid (owns_below Ho1.out (Nat.le_refl _) hb3)
    go_wp2_with fail
    refine (markResS_any _ _ _ _ _ (by omega) hn _ Ho1'.out).mono ?_
    rintro e w4 ⟨rfl, ho4, hg4⟩
    have hb4 := below_of_grown hg4 Ho1'.out (Nat.le_trans s12 s23)
    have Ho4 := Lib.hid ho4
    clear ho4
    have h04 := h03.trans (hb4.mono s01)
    have s34 := hb4.size
    go_wp2_with fail
    refine (heldResS_any _ _ _ _ (by omega) hn _ (rd_of_owns Ho4.out)).mono ?_
    rintro e w5 ⟨rfl, rfl⟩
    go_wp2_with fail
    refine (implReadTree_two a0 HM.out _).mono ?_
    rintro e w5 ⟨v5, rfl, ho5, hb5⟩
    obtain ⟨p5, c5, rfl, _⟩ := owns_slice ho5
    have Ho5 := Lib.hid ho5
    clear ho5
    have h05 := h04.trans (hb5.mono h04.size)
    have s45 := hb5.size
    have h15 := ((hb2.trans (hb3.mono s12)).trans hb4).trans (hb5.mono (Nat.le_trans s12 (Nat.le_trans s23 s34)))
    go_wp2_with fail
    refine (eqResS_any _ _ _ _ _ (treeRes (bl a0)) rfl hn _ (rd_of_owns Ho5.out) (rd_of_owns (owns_below Ho0.out (Nat.le_refl _) h15))).mono ?_
    rintro e w6 ⟨rfl, hb6⟩
    have h06 := h05.trans (hb6.mono h05.size)
    have h46 := hb5.trans (hb6.mono s45)
    go_wp2_with fail
    refine (heldResS_any _ _ _ _ (by omega) hn _ ((rd_of_owns Ho4.out).below h46)).mono ?_
    rintro e w7 ⟨rfl, rfl⟩
    go_wp2
    go_ret
    exact ⟨rfl, h06⟩
  · go_enter Try.func7, Try.ntmps7
    go_wp2
    go_ret
    exact ⟨rfl, Below.refl _ _⟩

end Go.Proofs.Ytnchmenpgmlpdaa
