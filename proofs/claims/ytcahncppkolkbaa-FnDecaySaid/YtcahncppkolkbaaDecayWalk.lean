/- The walks of Decay and DecayRounds. -/
import Derived.Test.YtcahncppkolkbaaDecayPure
import Derived.Test.YtcahncppkolkbaaTreeGive
import Derived.Test.YtcahncppkolkbaaTreeBackS
namespace Go.Proofs.Ytcahncppkolkbaa
open Go.RowKit

/-- A tree and a number. -/
def OwnRetI (w : World) (n : Nat) (r : List Res × Int) (e : Ending) (w' : World) : Prop :=
  ∃ v, e = .returned (.tuple #[v, .int .i64 r.2]) ∧ w'.ownsRow w.heap.size 45 5 v n (r.1.flatMap Res.enc) ∧ Below w.heap.size w w'
theorem Acc.retI {w0 w : World} {r : List Res × Int} {l : List Res} {b : Int} {n : Nat} {v : Value} (h : Acc w0 45 5 n (l.flatMap Res.enc) v w) (hr : r = (l, b)) : OwnRetI w0 n r (.returned (.tuple #[v, .int .i64 b])) w := by
  subst hr; exact ⟨v, rfl, h.1, h.2⟩
set_option maxRecDepth 100000 in
set_option maxHeartbeats 4000000 in
theorem implDecay_any (ad : Option Addr) (n cap : Nat) (t : List Res) (q p : Int) (hn : n = t.length) (hl : n ≤ 1048576) (w : World) (h : Rd w ad (t.flatMap Res.enc)) :
    Calls Try.prog 6 #[.slice ad n cap, .int .i64 q, .int .i64 p] w (OwnRetI w n (decayT t q p)) := by
  have Hn := Lib.hid hn
  clear hn
  go_enter Try.func6, Try.ntmps6
  go_wp2_with fail
  refine (implCopyTree_any _ _ _ t Hn.out hl _ h).mono ?_
  rintro e w1 ⟨v1, rfl, ho1, hb1⟩
  have HA := hideP (Acc.of (Below.refl _ _) ho1 hb1)
  have HH1 := hideP (h.below hb1)
  go_wp2_with fail
  refine (implTreeOk_any _ _ _ t Hn.out hl _ HH1.out).mono ?_
  rintro e w2 ⟨rfl, hb2⟩
  have HA2 := hideP (HA.out.below hb2)
  have hb02 := hb1.trans (hb2.mono hb1.size)
  clear ho1
  cases hok : treeOk t
  · have HR : Hid (decayT t q p = (t, 0)) := hideP (by unfold decayT decayOk; rw [hok]; rfl)
    go_wp2
    go_ret2
    exact HA2.out.retI HR.out
  cases hq : inB q 0 2
  · have HR : Hid (decayT t q p = (t, 0)) := hideP (by unfold decayT decayOk; rw [hq, Bool.false_and, Bool.and_false]; rfl)
    go_wp2_with fail
    refine (within_any _ _ _ _).mono ?_
    rintro e w' ⟨rfl, rfl⟩
    rw [hq]
    go_wp2
    go_ret2
    exact HA2.out.retI HR.out
  cases hp : inB p 0 100
  · have HR : Hid (decayT t q p = (t, 0)) := hideP (by unfold decayT decayOk; rw [hp, Bool.and_false, Bool.and_false]; rfl)
    go_wp2_with fail
    refine (within_any _ _ _ _).mono ?_
    rintro e w' ⟨rfl, rfl⟩
    rw [hq]
    go_wp2_with fail
    refine (within_any _ _ _ _).mono ?_
    rintro e w' ⟨rfl, rfl⟩
    rw [hp]
    go_wp2
    go_ret2
    exact HA2.out.retI HR.out
  have HR : Hid (decayT t q p = decayGo t q p 4 1 t 0) := hideP (by unfold decayT decayOk; rw [hok, hq, hp]; rfl)
  have Hok := Lib.hid hok
  have hq' := inB_true.1 hq
  have hp' := inB_true.1 hp
  have HQ := Lib.hid hq'
  obtain ⟨hp0, hp1⟩ := hp'
  have hn5 : n = 5 := by have := Hn.out; have := (tree_parts hok).1; omega
  subst hn5
  go_wp2_with fail
  refine (within_any _ _ _ _).mono ?_
  rintro e w' ⟨rfl, rfl⟩
  rw [hq]
  go_wp2_with fail
  refine (within_any _ _ _ _).mono ?_
  rintro e w' ⟨rfl, rfl⟩
  rw [hp]
  clear hok hq hp hq'
  go_wp2
  go_loopg [8, 9, 10] 6 (fun gk v sv iv wr => ∃ (k : Nat) (x : List Res) (s : Int), 5 < gk + k ∧ 1 ≤ k ∧ k ≤ 5 ∧ iv = .int .i64 (k : Int) ∧ sv = .int .i64 s ∧ 0 ≤ s ∧ s ≤ 5000000 ∧ Hid (DInv t q p k x s) ∧ Hid (decayGo t q p 4 1 t 0 = decayGo t q p (5 - k) k x s) ∧ Hid (Acc w 45 5 5 (x.flatMap Res.enc) v wr))
  case atStart => exact ⟨1, t, 0, by omega, by omega, by omega, rfl, rfl, by omega, by omega, hideP (DInv.start Hok.out), hideP rfl, HA2⟩
  case round =>
    obtain ⟨k, x, s, hgk, hk1, hk5, rfl, rfl, hs0, hs1, hI, hG, hA⟩ := hrel
    obtain ⟨va, vc, rfl, hrd⟩ := hA.out.slice
    have HRX := Lib.hid hrd
    have HXL : Hid (5 = x.length) := hideP (tree_parts hI.out.ok).1.symm
    have hbw : Below w.heap.size w wr := hA.out.2
    by_cases hlt : k < 5
    · obtain ⟨y, hy⟩ := some_at (l := t) (k := k) (by have := Hn.out; omega)
      obtain ⟨y2, hy2⟩ := some_at (l := x) (k := k) (by have := HXL.out; omega)
      have hyr := resAt_get hy
      have hy2r := resAt_get hy2
      have hee : y2 = y := by rw [← hyr, ← hy2r]; exact hI.out.rest k (Nat.le_refl _) hk1
      subst hee
      obtain ⟨b, o, rfl, hbwb, g1, g2, g3, g4, g5⟩ := (h.below hbw).rowRes hy
      have k0 : (0 : Int) ≤ (k : Int) := by omega
      have k5 : (k : Int) < 5 := by omega
      
      obtain ⟨f, hf⟩ : ∃ f, 5 - k = f + 1 := ⟨4 - k, by omega⟩
      have hf2 : 5 - (k + 1) = f := by omega
      have hG' := hG.out
      rw [hf] at hG'
      have hax := amtPart_in (i := q) (show amtOk y2.bal = true by rw [← hyr]; exact resAt_ok Hok.out k)
      obtain ⟨hax0, hax1⟩ := hax
      have hkin := decayK_in (q := q) (p := p) (show amtOk y2.bal = true by rw [← hyr]; exact resAt_ok Hok.out k) ⟨hp0, hp1⟩
      obtain ⟨hkin0, hkin1⟩ := hkin
      cases hlv : y2.live
      · have HG2 := Lib.hid (hG'.trans (decayGo_dead (by rw [hyr]; exact hlv)))
        have HI2 := hideP (hI.out.dead Hok.out hk1 (by rw [hyr]; exact hlv))
        rw [hlv] at g1
        rw [← hf2] at HG2
        clear hy hy2 hyr hy2r hlv hf hf2 hG' hrd
        go_wp2
        go_roundg (gk - 1)
        case measure => omega
        case rel => exact ⟨k + 1, x, s, by omega, by omega, by omega, by go_num, rfl, hs0, hs1, HI2, HG2, hA⟩
      · obtain ⟨yy, z, h1, h2, h3, h4⟩ := hI.out.step Hok.out HQ.out ⟨hp0, hp1⟩ hk1 hlt (by rw [hyr]; exact hlv)
        have hG2 := hG'.trans (decayGo_live (by rw [hyr]; exact hlv) h3)
        rw [hyr, ← hf2] at hG2
        rw [hyr] at h1 h2 h3 h4
        have HG2 := Lib.hid hG2
        have HI2 := Lib.hid h4
        have H1 := Lib.hid h1
        have H2 := Lib.hid h2
        have H3 := Lib.hid h3
        have hs2 : s + decayK y2.bal q p ≤ 5000000 := by have := h4.hi; omega
        have mu : -1000000000 ≤ p * amtPart y2.bal q ∧ p * amtPart y2.bal q ≤ 1000000000 := by
          have c1 : p * amtPart y2.bal q ≤ 100 * amtPart y2.bal q := Int.mul_le_mul_of_nonneg_right hp1 hax0
          have c2 : 0 ≤ p * amtPart y2.bal q := Int.mul_nonneg hp0 hax0
          omega
        have c2 : 0 ≤ p * amtPart y2.bal q := Int.mul_nonneg hp0 hax0
        obtain ⟨mu1, mu2⟩ := mu
        have HK : Hid ((p * amtPart y2.bal q + 99) / 100 = decayK y2.bal q p) := hideP rfl
        rw [hlv] at g1
        clear hy hy2 hyr hy2r hlv hf hf2 hG' hrd hG2 h1 h2 h3 h4
        go_wp2_with fail
        refine (implAmtPart_any y2.bal q _).mono ?_
        rintro e w3 ⟨rfl, hb3⟩
        have hA3 := hideP (hA.out.below hb3)
        go_wp2_with fail
        rw [HK.out]
        refine (implAmtOne_any q (decayK y2.bal q p) _).mono ?_
        rintro e w4 ⟨rfl, hb4⟩
        have hA4 := hideP (hA3.out.below hb4)
        go_wp2_with fail
        refine (implTreeGive_any _ _ _ x (k : Int) 0 (amtOne q (decayK y2.bal q p)) HXL.out (by decide) _ (HRX.out.below (hb3.trans (hb4.mono hb3.size)))).mono ?_
        rintro e w5 ⟨v5, rfl, ho5, hb5⟩
        rw [H3.out] at ho5 ⊢
        have hA5 := hideP (Acc.of hA4.out.2 ho5 hb5)
        clear ho5
        go_wp2
        go_roundg (gk - 1)
        case measure => omega
        case rel => exact ⟨k + 1, z, _, by omega, by omega, by omega, by go_num, rfl, by omega, hs2, HI2, HG2, hA5⟩
    · have hke : k = 5 := by omega
      subst hke
      have HR2 : Hid (decayT t q p = (x, s)) := hideP (by rw [HR.out, hG.out]; rfl)
      clear hrd
      go_wp2
      go_ret2
      exact hA.out.retI HR2.out

end Go.Proofs.Ytcahncppkolkbaa
