/- The walks of DecayRounds. -/
import Derived.Test.YtcahncppkolkbaaDecayWalk
namespace Go.Proofs.Ytcahncppkolkbaa
open Go.RowKit

def roundsM (q p m : Int) (t : List Res) : List Res := roundsT q p (if m ≤ 100 then m else 100).toNat t
theorem roundsM_len (q p m : Int) (t : List Res) : (roundsM q p m t).length = t.length := rounds_len ..
set_option maxRecDepth 100000 in
set_option maxHeartbeats 4000000 in
theorem implDecayRounds_any (ad : Option Addr) (n cap : Nat) (t : List Res) (q p m : Int) (hn : n = t.length) (hl : n ≤ 1048576) (w : World) (h : Rd w ad (t.flatMap Res.enc)) :
    Calls Try.prog 11 #[.slice ad n cap, .int .i64 q, .int .i64 p, .int .i64 m] w (OwnRet w 45 5 n ((roundsM q p m t).flatMap Res.enc)) := by
  have Hn := Lib.hid hn
  clear hn
  go_enter Try.func11, Try.ntmps11
  go_wp2_with fail
  refine (implCopyTree_any _ _ _ t Hn.out hl _ h).mono ?_
  rintro e w1 ⟨v1, rfl, ho1, hb1⟩
  have HA := hideP (Acc.of (Below.refl _ _) ho1 hb1)
  clear ho1
  obtain ⟨r, hr⟩ : ∃ r : Nat, r = (if m ≤ 100 then m else 100).toNat := ⟨_, rfl⟩
  have hr1 : r ≤ 100 ∧ (m ≤ 100 → 0 ≤ m → m = r) ∧ (m ≤ 100 → m < 0 → r = 0) ∧ (100 < m → r = 100) := by
    subst hr
    split <;> omega
  have HRM : Hid (roundsM q p m t = roundsT q p r t) := hideP (by unfold roundsM; rw [← hr])
  obtain ⟨hr2, hr3, hr4, hr5⟩ := hr1
  have HR3 := hideP hr3
  have HR4 := hideP hr4
  have HR5 := hideP hr5
  clear hr hr3 hr4 hr5
  go_wp2
  go_loopg [9, 10] 101 (fun gk v iv wr => ∃ (k : Nat) (x : List Res), 100 < gk + k ∧ k ≤ r ∧ iv = .int .i64 (k : Int) ∧ Hid (n = x.length) ∧ Hid (roundsT q p r t = roundsT q p (r - k) x) ∧ Hid (Acc w 45 5 n (x.flatMap Res.enc) v wr))
  case atStart => exact ⟨0, t, by omega, by omega, rfl, Hn, hideP rfl, HA⟩
  case round =>
    obtain ⟨k, x, hgk, hk, rfl, hxl, hG, hA⟩ := hrel
    obtain ⟨va, vc, rfl, hrd⟩ := hA.out.slice
    have HRX := Lib.hid hrd
    clear hrd
    by_cases hlt : k < r
    · have d1 : decide ((k : Int) < m) = true := by
        have := HR3.out; have := HR4.out; have := HR5.out
        by_cases c : m ≤ 100
        · simp; omega
        · simp; omega
      have d2 : (k : Int) < 100 := by omega
      obtain ⟨f, hf⟩ : ∃ f, r - k = f + 1 := ⟨r - k - 1, by omega⟩
      have hf2 : r - (k + 1) = f := by omega
      have HG2 : Hid (roundsT q p r t = roundsT q p (r - (k + 1)) (decayT x q p).1) := hideP (by rw [hG.out, hf, hf2]; rfl)
      have HXL : Hid (n = (decayT x q p).1.length) := hideP (by rw [decay_len]; exact hxl.out)
      clear hf hf2
      go_wp2_with fail
      refine (implDecay_any _ _ _ x q p hxl.out hl _ HRX.out).mono ?_
      rintro e w2 ⟨v2, rfl, ho2, hb2⟩
      have hA2 := hideP (Acc.of hA.out.2 ho2 hb2)
      clear ho2
      go_wp2
      go_roundg (gk - 1)
      case measure => omega
      case rel => exact ⟨k + 1, _, by omega, by omega, by go_num, HXL, HG2, hA2⟩
    · have hkr : k = r := by omega
      subst hkr
      have HF : Hid (roundsM q p m t = x) := hideP (by rw [HRM.out, hG.out, Nat.sub_self]; rfl)
      by_cases c : m ≤ 100
      · have d1 : decide ((k : Int) < m) = false := by
          have := HR3.out; have := HR4.out
          simp; omega
        clear hlt
        go_wp2
        go_ret
        rw [HF.out]
        exact hA.out.ret
      · have d1 : decide ((k : Int) < m) = true := by simp; omega
        have d2 : decide ((k : Int) < 100) = false := by have hk100 : k = 100 := HR5.out (by omega); simp; omega
        clear hlt
        go_wp2
        go_ret
        rw [HF.out]
        exact hA.out.ret

end Go.Proofs.Ytcahncppkolkbaa
