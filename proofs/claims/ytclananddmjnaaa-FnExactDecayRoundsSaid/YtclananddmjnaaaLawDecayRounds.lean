/- The walk of FnExactDecayRounds. -/
import Derived.Test.YtclananddmjnaaaRoundsWalk
namespace Go.Proofs.Ytclananddmjnaaa
open Go.RowKit


set_option maxRecDepth 100000 in
set_option maxHeartbeats 2000000 in
theorem lawFnExactDecayRounds_walk (a : Option Addr) (n cap : Nat) (l : List Res) (hn : n = l.length) (hl : n ≤ maxLen) (x1 : Int) (_wx1 : (Lit.int .i64 x1).wf = true) (x2 : Int) (_wx2 : (Lit.int .i64 x2).wf = true) (x3 : Int) (_wx3 : (Lit.int .i64 x3).wf = true) (w : World) (h : Rd w a (l.flatMap Res.enc)) :
    Calls Try.prog 13 #[.slice a n cap, .int .i64 x1, .int .i64 x2, .int .i64 x3] w fun e w' => e = .returned (.bool true) ∧ Below w.heap.size w w' := by
  have Hn := Lib.hid hn
  clear hn
  by_cases hs : n ≤ 1048576
  · have hnr : (n) ≤ 1048576 := hs
    go_enter Try.func13, Try.ntmps13
    go_wp2_with fail
    refine (szResS_any _ _ _ hl _).mono ?_
    rintro e w' ⟨rfl, rfl⟩
    rw [if_pos hs]
    go_wp2_with fail
    refine (toResS_any _ _ _ l Hn.out hs _ h).mono ?_
    rintro e w1 ⟨v1, rfl, ho1, hb1⟩
    obtain ⟨a1, c1, rfl, hc1⟩ := owns_slice ho1
    have Ho1 := Lib.hid ho1
    clear ho1
    have s1 := hb1.size
    go_wp2_with fail
    refine (specDecayRounds_any _ _ _ l x1 x2 x3 Hn.out hs _ (rd_of_owns Ho1.out)).mono ?_
    rintro e w2 ⟨v2, rfl, ho2, hb2⟩
    obtain ⟨a2, c2, rfl, hc2⟩ := owns_slice ho2
    have Ho2 := Lib.hid ho2
    clear ho2
    have s2 := hb2.size
    have h02 := hb1.trans (hb2.mono s1)
    go_wp2_with fail
    refine (toResS_any _ _ _ l Hn.out hs _ (h.below h02)).mono ?_
    rintro e w3 ⟨v3, rfl, ho3, hb3⟩
    obtain ⟨a3, c3, rfl, hc3⟩ := owns_slice ho3
    have Ho3 := Lib.hid ho3
    clear ho3
    have s3 := hb3.size
    have h03 := h02.trans (hb3.mono h02.size)
    go_wp2_with fail
    refine (implDecayRounds_any _ _ _ l x1 x2 x3 Hn.out hs _ (rd_of_owns Ho3.out)).mono ?_
    rintro e w4 ⟨v4, rfl, ho4, hb4⟩
    obtain ⟨a4, c4, rfl, hc4⟩ := owns_slice ho4
    have Ho4 := Lib.hid ho4
    clear ho4
    have s4 := hb4.size
    have h04 := h03.trans (hb4.mono h03.size)
    have h24 := hb3.trans (hb4.mono s3)
    go_wp2_with fail
    refine (eqResS_any _ _ _ _ _ (roundsM x1 x2 x3 l) (Hn.out.trans (roundsM_len x1 x2 x3 l).symm) hnr _ (rd_of_owns Ho4.out) ((rd_of_owns Ho2.out).below h24)).mono ?_
    rintro e w5 ⟨rfl, hb5⟩
    have s5 := hb5.size
    have h05 := h04.trans (hb5.mono h04.size)
    have h35 := hb4.trans (hb5.mono s4)
    go_wp2_with fail
    refine (toResS_any _ _ _ l Hn.out hs _ (h.below h05)).mono ?_
    rintro e w6 ⟨v6, rfl, ho6, hb6⟩
    obtain ⟨a6, c6, rfl, hc6⟩ := owns_slice ho6
    have Ho6 := Lib.hid ho6
    clear ho6
    have s6 := hb6.size
    have h06 := h05.trans (hb6.mono h05.size)
    have h36 := h35.trans (hb6.mono h35.size)
    go_wp2_with fail
    refine (eqResS_any _ _ _ _ _ l Hn.out hs _ ((rd_of_owns Ho3.out).below h36) (rd_of_owns Ho6.out)).mono ?_
    rintro e w7 ⟨rfl, hb7⟩
    have s7 := hb7.size
    have h07 := h06.trans (hb7.mono h06.size)
    have h37 := h36.trans (hb7.mono h36.size)
    have h47 := (hb5.trans (hb6.mono s5)).trans (hb7.mono (Nat.le_trans s5 s6))
    have h27 := h24.trans ((hb5.trans (hb6.mono s5)).trans (hb7.mono (Nat.le_trans s5 s6)) |>.mono h24.size)
    have O3 := Lib.hid (owns_below Ho3.out (Nat.le_refl _) h37)
    have O4 := Lib.hid (owns_below Ho4.out (Nat.le_refl _) h47)
    have O2 := Lib.hid (owns_below Ho2.out (Nat.le_refl _) h27)
    go_wp2_with fail
    refine (markResS_any _ _ _ _ _ (by omega) hs _ O3.out).mono ?_
    rintro e w8 ⟨rfl, ho8, hg8⟩
    have hb8 := below_of_grown hg8 O3.out (by omega)
    have G8 := Lib.hid hg8
    clear hg8 ho8
    have s8 := hb8.size
    have h08 := h07.trans (hb8.mono (by omega))
    have P4 := Lib.hid (O4.out.kept G8.out (apart' Ho4.out Ho3.out (Nat.le_refl _)))
    have P2 := Lib.hid (O2.out.kept G8.out (apart Ho2.out Ho3.out (Nat.le_refl _)))
    go_wp2_with fail
    refine (eqResS_any _ _ _ _ _ (roundsM x1 x2 x3 l) (Hn.out.trans (roundsM_len x1 x2 x3 l).symm) hnr _ (rd_of_owns P4.out) (rd_of_owns P2.out)).mono ?_
    rintro e w9 ⟨rfl, hb9⟩
    have s9 := hb9.size
    have h09 := h08.trans (hb9.mono h08.size)
    have Q4 := Lib.hid (owns_below P4.out (Nat.le_refl _) hb9)
    have Q2 := Lib.hid (owns_below P2.out (Nat.le_refl _) hb9)
    go_wp2_with fail
    refine (markResS_any _ _ _ _ _ (by omega) hnr _ Q4.out).mono ?_
    rintro e w10 ⟨rfl, ho10, hg10⟩
    have hb10 := below_of_grown hg10 Q4.out (by omega)
    have O10 := Lib.hid ho10
    have G10 := Lib.hid hg10
    clear hg10 ho10
    have s10 := hb10.size
    have h010 := h09.trans (hb10.mono (by omega))
    have R2 := Lib.hid (Q2.out.kept G10.out (apart Ho2.out Ho4.out s3))
    go_wp2_with fail
    refine (heldResS_any _ _ _ _ (by omega) hnr _ (rd_of_owns O10.out)).mono ?_
    rintro e w11 ⟨rfl, rfl⟩
    go_wp2_with fail
    refine (toResS_any _ _ _ l Hn.out hs _ (h.below h010)).mono ?_
    rintro e w12 ⟨v12, rfl, ho12, hb12⟩
    obtain ⟨a12, c12, rfl, hc12⟩ := owns_slice ho12
    have Ho12 := Lib.hid ho12
    clear ho12
    have s12 := hb12.size
    have h012 := h010.trans (hb12.mono h010.size)
    go_wp2_with fail
    refine (implDecayRounds_any _ _ _ l x1 x2 x3 Hn.out hs _ (rd_of_owns Ho12.out)).mono ?_
    rintro e w13 ⟨v13, rfl, ho13, hb13⟩
    obtain ⟨a13, c13, rfl, hc13⟩ := owns_slice ho13
    have Ho13 := Lib.hid ho13
    clear ho13
    have s13 := hb13.size
    have h013 := h012.trans (hb13.mono h012.size)
    have h1013 := hb12.trans (hb13.mono s12)
    go_wp2_with fail
    refine (eqResS_any _ _ _ _ _ (roundsM x1 x2 x3 l) (Hn.out.trans (roundsM_len x1 x2 x3 l).symm) hnr _ (rd_of_owns Ho13.out) ((rd_of_owns R2.out).below h1013)).mono ?_
    rintro e w14 ⟨rfl, hb14⟩
    have s14 := hb14.size
    have h014 := h013.trans (hb14.mono h013.size)
    have h1014 := h1013.trans (hb14.mono h1013.size)
    go_wp2_with fail
    refine (heldResS_any _ _ _ _ (by omega) hnr _ ((rd_of_owns O10.out).below h1014)).mono ?_
    rintro e w15 ⟨rfl, rfl⟩
    go_wp2
    go_ret
    exact ⟨rfl, h014⟩
  · go_enter Try.func13, Try.ntmps13
    go_wp2_with fail
    refine (szResS_any _ _ _ hl _).mono ?_
    rintro e w' ⟨rfl, rfl⟩
    rw [if_neg hs]
    go_wp2
    go_ret
    exact ⟨rfl, Below.refl _ _⟩

end Go.Proofs.Ytclananddmjnaaa
