/- ReadDec of the reference. -/
import Derived.Test.YtamfgkicmikmbaaDoorReadDec
import Derived.Test.YtamfgkicmikmbaaDoorReadDecP
import Derived.Deep.LoopGhost
namespace Go.Proofs.YtamfgkicmikmbaaDoor
open Go.RowKit

set_option maxRecDepth 100000 in
set_option maxHeartbeats 4000000 in
theorem rd_fold_lt : ∀ (l : List UInt8) (p : Nat × Nat) (k : Nat), p.1 < 10 ^ k → (l.foldl rdStep p).1 < 10 ^ (k + l.length)
  | [], p, k, h => by simpa using h
  | c :: l, p, k, h => by
    have h1 : (rdStep p c).1 < 10 ^ (k + 1) := by
      rw [Nat.pow_succ]
      unfold rdStep
      split
      · dsimp only; omega
      · omega
    have := rd_fold_lt l (rdStep p c) (k + 1) h1
    rw [List.foldl_cons, List.length_cons]
    rwa [show k + (l.length + 1) = k + 1 + l.length by omega]
theorem rd_take_lt (l : List UInt8) {k : Nat} (hk : k ≤ 11) : ((l.take k).foldl rdStep (0, 0)).1 < 1000000000000 := by
  have h := rd_fold_lt (l.take k) (0, 0) 0 (by decide)
  have h2 : 10 ^ (0 + (l.take k).length) ≤ 10 ^ 11 := Nat.pow_le_pow_right (by decide) (by rw [List.length_take]; omega)
  have h3 : (10 : Nat) ^ 11 = 100000000000 := by decide
  omega
theorem specReadDec_any (s : ByteArray) (hs : s.size ≤ 1048576) (w : World) :
    Calls Tryd.prog 18 #[.string s] w fun e w' => e = .returned (decRes s.data.toList) ∧ Below w.heap.size w w' := by
  go_enter Tryd.func18, Tryd.ntmps18
  go_wp2
  go_loopg [4, 5, 6] 12 (fun gk nv kv iv wr => ∃ (k : Nat) (p : Nat × Nat), 11 < gk + k ∧ k ≤ 11 ∧ k ≤ s.size ∧ iv = .int .i64 (k : Int) ∧ nv = .int .i64 (p.1 : Int) ∧ kv = .int .i64 (p.2 : Int) ∧ p.2 ≤ k ∧ Hid ((s.data.toList.take k).foldl rdStep (0, 0) = p) ∧ Hid (Below w.heap.size w wr))
  case atStart => exact ⟨0, (0, 0), by omega, by omega, by omega, rfl, rfl, rfl, by omega, hideP rfl, hideP (Below.refl _ _)⟩
  case round =>
    obtain ⟨k, ⟨n, q⟩, hgk, hk11, hks, rfl, rfl, rfl, hq, HF, HB⟩ := hrel
    have hn : n < 1000000000000 := by have := rd_take_lt s.data.toList hk11; rw [HF.out] at this; exact this
    by_cases hlt : k < s.size
    · by_cases h11 : k < 11
      · have k1 : (k : Int) < (s.size : Int) := by omega
        have k2 : (k : Int) < 11 := by omega
        have k0 : (0 : Int) ≤ (k : Int) := by omega
        have hc : s.data.toList[k]? = some (s[k]'hlt) := by
          rw [List.getElem?_eq_getElem (by simpa using hlt)]
          rfl
        have HT : Hid ((s.data.toList.take (k + 1)).foldl rdStep (0, 0) = rdStep (n, q) (s[k]'hlt)) := hideP (by
          rw [List.take_add_one, hc, List.foldl_append, HF.out]
          rfl)
        clear hc
        by_cases hd : 48 ≤ (s[k]'hlt).toNat ∧ (s[k]'hlt).toNat ≤ 57
        · obtain ⟨hd1, hd2⟩ := hd
          have HT2 : Hid ((s.data.toList.take (k + 1)).foldl rdStep (0, 0) = (n * 10 + ((s[k]'hlt).toNat - 48), q + 1)) := hideP (by rw [HT.out]; unfold rdStep; rw [if_pos ⟨hd1, hd2⟩])
          go_wp2
          go_roundg (gk - 1)
          case measure => omega
          case rel => exact ⟨k + 1, (n * 10 + ((s[k]'hlt).toNat - 48), q + 1), by omega, by omega, by omega, by go_num, by simp; omega, by go_num, by simp; omega, HT2, HB⟩
        · have HT2 : Hid ((s.data.toList.take (k + 1)).foldl rdStep (0, 0) = (n, q)) := hideP (by rw [HT.out]; unfold rdStep; rw [if_neg hd])
          rcases (show ¬ (48 ≤ (s[k]'hlt).toNat) ∨ (48 ≤ (s[k]'hlt).toNat ∧ ¬ ((s[k]'hlt).toNat ≤ 57)) by omega) with d1 | ⟨d1, d2⟩
          all_goals
            clear hd
            go_wp2
            go_roundg (gk - 1)
            case measure => omega
            case rel => exact ⟨k + 1, (n, q), by omega, by omega, by omega, by go_num, rfl, rfl, by simp; omega, HT2, HB⟩
      · obtain rfl : k = 11 := by omega
        have k1 : ((11 : Nat) : Int) < (s.size : Int) := by omega
        have HE : Hid (rdFold s.data.toList = (n, q)) := hideP HF.out
        have hz : 0 < s.size := by omega
        have z1 : (0 : Int) < (s.size : Int) := by omega
        have HN := hideP (specRd_no (l := s.data.toList) (.inr (.inl (by simp; omega))))
        have q2 : (s.size : Int) > 10 := by omega
        obtain ⟨b45, h45'⟩ : ∃ b : Bool, (((s[0]'hz).toNat : Int) == 45) = b := ⟨_, rfl⟩
        cases b45
        all_goals
          by_cases hq9 : q ≤ 9
          · have q1 : ¬ ((q : Int) > 9) := by omega
            go_wp2
            go_ret2
            exact ⟨by rw [HN.out]; rfl, HB.out⟩
          · have q1 : (q : Int) > 9 := by omega
            go_wp2
            go_ret2
            exact ⟨by rw [HN.out]; rfl, HB.out⟩
    · have HE : Hid (rdFold s.data.toList = (n, q)) := hideP (by
        have := HF.out
        rw [List.take_of_length_le (by simp; omega)] at this
        unfold rdFold
        rw [List.take_of_length_le (by simp; omega)]
        exact this)
      have k1 : ¬ ((k : Int) < (s.size : Int)) := by omega
      by_cases hz : 0 < s.size
      · have z1 : (0 : Int) < (s.size : Int) := by omega
        have hh : s.data.toList.head? = some (s[0]'hz) := by
          rw [List.head?_eq_getElem?, List.getElem?_eq_getElem (by simpa using hz)]
          rfl
        by_cases h45 : (s[0]'hz).toNat = 45
        · have HM : Hid (rdM s.data.toList = -(n : Int)) := hideP (by
            unfold rdM
            rw [hh, if_pos (by rw [show s[0]'hz = 45 from UInt8.toNat_inj.1 h45]), HE.out])
          have h45' : (((s[0]'hz).toNat : Int) == 45) = true := by simp [h45]
          clear hh
          by_cases hq9 : q ≤ 9
          · by_cases h10 : s.size ≤ 10
            · have hm9 := rdM_in (l := s.data.toList) (by rw [HE.out]; exact hq9)
              rw [HM.out] at hm9
              have q1 : ¬ ((q : Int) > 9) := by omega
              have q2 : ¬ ((s.size : Int) > 10) := by omega
              go_wp2_with fail
              refine (specDec_any (-(n : Int)) hm9.1 hm9.2 _).mono ?_
              rintro e w3 ⟨rfl, hb3⟩
              have HB := hideP (HB.out.trans (hb3.mono HB.out.size))
              clear hb3 hm9
              by_cases he : Lib.itoa (-(n : Int)) = s.data.toList
              · have HN := hideP (specRd_yes (l := s.data.toList) (by rw [HE.out]; exact hq9) (by rw [HM.out]; exact he))
                have e1 : (Lib.itoa (-(n : Int)) == s.toList) = true := by rw [ByteArray.toList_eq, he]; simp
                clear he
                go_wp2
                go_ret2
                exact ⟨by rw [HN.out, HM.out]; rfl, HB.out⟩
              · have HN := hideP (specRd_no (l := s.data.toList) (.inr (.inr (by rw [HM.out]; exact he))))
                have e1 : (Lib.itoa (-(n : Int)) == s.toList) = false := by rw [ByteArray.toList_eq]; simpa using he
                clear he
                go_wp2
                go_ret2
                exact ⟨by rw [HN.out]; rfl, HB.out⟩
            · have HN := hideP (specRd_no (l := s.data.toList) (.inr (.inl (by simp; omega))))
              have q1 : ¬ ((q : Int) > 9) := by omega
              have q2 : (s.size : Int) > 10 := by omega
              go_wp2
              go_ret2
              exact ⟨by rw [HN.out]; rfl, HB.out⟩
          · have HN := hideP (specRd_no (l := s.data.toList) (.inl (by rw [HE.out]; dsimp only; omega)))
            have q1 : (q : Int) > 9 := by omega
            go_wp2
            go_ret2
            exact ⟨by rw [HN.out]; rfl, HB.out⟩
        · have HM : Hid (rdM s.data.toList = (n : Int)) := hideP (by
            unfold rdM
            rw [hh, if_neg (fun e => h45 (by rw [Option.some.inj e]; rfl)), HE.out])
          have h45' : (((s[0]'hz).toNat : Int) == 45) = false := by simp; omega
          clear hh
          by_cases hq9 : q ≤ 9
          · by_cases h10 : s.size ≤ 10
            · have hm9 := rdM_in (l := s.data.toList) (by rw [HE.out]; exact hq9)
              rw [HM.out] at hm9
              have q1 : ¬ ((q : Int) > 9) := by omega
              have q2 : ¬ ((s.size : Int) > 10) := by omega
              go_wp2_with fail
              refine (specDec_any ((n : Int)) hm9.1 hm9.2 _).mono ?_
              rintro e w3 ⟨rfl, hb3⟩
              have HB := hideP (HB.out.trans (hb3.mono HB.out.size))
              clear hb3 hm9
              by_cases he : Lib.itoa ((n : Int)) = s.data.toList
              · have HN := hideP (specRd_yes (l := s.data.toList) (by rw [HE.out]; exact hq9) (by rw [HM.out]; exact he))
                have e1 : (Lib.itoa ((n : Int)) == s.toList) = true := by rw [ByteArray.toList_eq, he]; simp
                clear he
                go_wp2
                go_ret2
                exact ⟨by rw [HN.out, HM.out]; rfl, HB.out⟩
              · have HN := hideP (specRd_no (l := s.data.toList) (.inr (.inr (by rw [HM.out]; exact he))))
                have e1 : (Lib.itoa ((n : Int)) == s.toList) = false := by rw [ByteArray.toList_eq]; simpa using he
                clear he
                go_wp2
                go_ret2
                exact ⟨by rw [HN.out]; rfl, HB.out⟩
            · have HN := hideP (specRd_no (l := s.data.toList) (.inr (.inl (by simp; omega))))
              have q1 : ¬ ((q : Int) > 9) := by omega
              have q2 : (s.size : Int) > 10 := by omega
              go_wp2
              go_ret2
              exact ⟨by rw [HN.out]; rfl, HB.out⟩
          · have HN := hideP (specRd_no (l := s.data.toList) (.inl (by rw [HE.out]; dsimp only; omega)))
            have q1 : (q : Int) > 9 := by omega
            go_wp2
            go_ret2
            exact ⟨by rw [HN.out]; rfl, HB.out⟩
      · have HM : Hid (rdM s.data.toList = (n : Int)) := hideP (by
          unfold rdM
          rw [if_neg (fun e => by rw [List.eq_nil_of_length_eq_zero (l := s.data.toList) (show s.size = 0 by omega)] at e; cases e), HE.out])
        have z1 : ¬ ((0 : Int) < (s.size : Int)) := by omega
        by_cases hq9 : q ≤ 9
        · by_cases h10 : s.size ≤ 10
          · have hm9 := rdM_in (l := s.data.toList) (by rw [HE.out]; exact hq9)
            rw [HM.out] at hm9
            have q1 : ¬ ((q : Int) > 9) := by omega
            have q2 : ¬ ((s.size : Int) > 10) := by omega
            go_wp2_with fail
            refine (specDec_any ((n : Int)) hm9.1 hm9.2 _).mono ?_
            rintro e w3 ⟨rfl, hb3⟩
            have HB := hideP (HB.out.trans (hb3.mono HB.out.size))
            clear hb3 hm9
            by_cases he : Lib.itoa ((n : Int)) = s.data.toList
            · have HN := hideP (specRd_yes (l := s.data.toList) (by rw [HE.out]; exact hq9) (by rw [HM.out]; exact he))
              have e1 : (Lib.itoa ((n : Int)) == s.toList) = true := by rw [ByteArray.toList_eq, he]; simp
              clear he
              go_wp2
              go_ret2
              exact ⟨by rw [HN.out, HM.out]; rfl, HB.out⟩
            · have HN := hideP (specRd_no (l := s.data.toList) (.inr (.inr (by rw [HM.out]; exact he))))
              have e1 : (Lib.itoa ((n : Int)) == s.toList) = false := by rw [ByteArray.toList_eq]; simpa using he
              clear he
              go_wp2
              go_ret2
              exact ⟨by rw [HN.out]; rfl, HB.out⟩
          · have HN := hideP (specRd_no (l := s.data.toList) (.inr (.inl (by simp; omega))))
            have q1 : ¬ ((q : Int) > 9) := by omega
            have q2 : (s.size : Int) > 10 := by omega
            go_wp2
            go_ret2
            exact ⟨by rw [HN.out]; rfl, HB.out⟩
        · have HN := hideP (specRd_no (l := s.data.toList) (.inl (by rw [HE.out]; dsimp only; omega)))
          have q1 : (q : Int) > 9 := by omega
          go_wp2
          go_ret2
          exact ⟨by rw [HN.out]; rfl, HB.out⟩

end Go.Proofs.YtamfgkicmikmbaaDoor
