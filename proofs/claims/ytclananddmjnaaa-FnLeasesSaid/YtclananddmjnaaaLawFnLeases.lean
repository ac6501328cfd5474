/- The walk of FnLeases. -/
import Derived.Test.YtclananddmjnaaaDrawLeases
import Derived.Test.YtclananddmjnaaaLeasePure
import Derived.Test.YtclananddmjnaaaBig
namespace Go.Proofs.Ytclananddmjnaaa
open Go.RowKit

def SmallTo (l : List Lease) (k : Nat) (b : Bool) : Prop := b = true → ∀ x ∈ l.take k, x.u < 60
theorem small_start (l : List Lease) : SmallTo l 0 true := fun _ => by simp
theorem small_no (l : List Lease) (k : Nat) : SmallTo l k false := fun z => by cases z
theorem small_end {l : List Lease} (h : SmallTo l l.length true) : ∀ x ∈ l, x.u < 60 := by
  have := h rfl
  rwa [List.take_length] at this
theorem small_next {l : List Lease} {k : Nat} {x : Lease} (h : SmallTo l k true) (hx : l[k]? = some x) (h60 : x.u < 60) : SmallTo l (k + 1) true := by
  intro _ y hy
  obtain ⟨hl, rfl⟩ := List.getElem?_eq_some_iff.1 hx
  rw [List.take_succ_eq_append_getElem hl, List.mem_append] at hy
  rcases hy with hy | hy
  · exact h rfl y hy
  · simp at hy; subst hy; exact h60

set_option maxRecDepth 100000 in
set_option maxHeartbeats 4000000 in
theorem lawFnLeases_walk (a : Option Addr) (n cap : Nat) (cl : List UInt8) (hn : n = cl.length) (hl : n ≤ maxLen) (w : World) (h : Rd w a (byteCells cl)) :
    Calls Try.prog 6 #[.slice a n cap] w fun e w' => e = .returned (.bool true) ∧ Below w.heap.size w w' := by
  have Hn := Lib.hid hn
  clear hn
  by_cases hs : n ≤ 1048576
  · have d0 : decide (1048576 < n) = false := by simpa using hs
    go_enter Try.func6, Try.ntmps6
    go_wp2_with fail
    refine (big_any _ _ _ _ hl).mono ?_
    rintro e w' ⟨rfl, rfl⟩
    rw [d0]
    go_wp2_with fail
    refine (drawPeak_any _ _ _ cl Hn.out hs _ h).mono ?_
    rintro e W ⟨v, l, rfl, hlen, ho, hb0⟩
    obtain ⟨la, lc, rfl, _⟩ := owns_slice ho
    have HR := hideP (rd_of_owns ho)
    have HB0 := Lib.hid hb0
    have hln : l.length ≤ 1048576 := by omega
    have HC := hideP (h.below hb0)
    clear ho hb0
    go_wp2_with fail
    refine (implPeak_any _ _ _ l rfl hln _ HR.out).mono ?_
    rintro e w1 ⟨rfl, hb1⟩
    go_wp2_with fail
    refine (specLeasesOk_any _ _ _ l rfl hln _ (HR.out.below hb1)).mono ?_
    rintro e w2 ⟨rfl, hq2⟩
    have hb2 := hb1.trans ((hq2.below w1.heap.size).mono hb1.size)
    clear hq2 hb1
    cases hok : leasesOk l
    · have e1 := Lib.hid (peak_bad hok)
      have e2 : Hid (leaseCost l = 0) := hideP (by rw [leaseCost, if_neg (by simp [hok])])
      have e3 : Hid (leasesFit l 1000000 = false) := hideP (by rw [leasesFit, hok]; rfl)
      clear hok
      rw [e1.out]
      go_wp2_with fail
      refine (implLeaseCost_any _ _ _ l rfl hln _ (HR.out.below hb2)).mono ?_
      rintro e w3 ⟨rfl, hb3⟩
      rw [e2.out]
      have hb03 := hb2.trans (hb3.mono hb2.size)
      go_wp2_with fail
      refine (implLeasesFit_any _ _ _ l _ rfl hln _ (HR.out.below hb03)).mono ?_
      rintro e w4 ⟨rfl, hb4⟩
      rw [e3.out]
      go_wp2
      go_ret
      exact ⟨rfl, HB0.out.trans ((hb03.trans (hb4.mono hb03.size)).mono HB0.out.size)⟩
    · have HOK := Lib.hid hok
      have HTOP := hideP (peak_top hok)
      have HPB := hideP (pagesAt_bound hok)
      have HPT0 := hideP (peak_eq hok)
      have hpk := peak_bound hok
      have HSF := hideP (fun (k : Int) (hk : 0 ≤ k) => short_facts hok hk)
      have HFIT := hideP (fun (k : Int) => show leasesFit l k = decide ((peak l).2 ≤ k) by rw [leasesFit, hok]; rfl)
      generalize (peak l).1 = pt at HPT0 ⊢
      generalize (peak l).2 = pk at HPT0 HTOP hpk HSF HFIT ⊢
      have HPT := HPT0
      clear HPT0 hok
      obtain ⟨pk0, pk1⟩ := hpk
      go_wp2
      go_loopg [6, 7] 61 (fun gk sm iv wr => ∃ (k : Nat) (acc : Int), 60 < gk + k ∧ k ≤ 60 ∧ iv = .int .i64 k ∧ sm = .int .i64 acc ∧ 0 ≤ acc ∧ acc ≤ 20000 * k ∧ Hid (sumAt l k = acc) ∧ Below W.heap.size W wr)
      case atStart => exact ⟨0, 0, by omega, by omega, rfl, rfl, by omega, by omega, hideP rfl, hb2⟩
      case round =>
        obtain ⟨k, acc, hgk, hk, rfl, rfl, ha0, ha1, hsa, hb⟩ := hrel
        by_cases hlt : k < 60
        · obtain ⟨pg, hpg⟩ : ∃ z, pagesAt l (k : Int) = z := ⟨_, rfl⟩
          have hple := HTOP.out (k : Int)
          have hpb := HPB.out (k : Int)
          have HSA : Hid (sumAt l (k + 1) = acc + pg) := hideP (by rw [sumAt, hsa.out, ← pagesAt_pgs HOK.out, hpg])
          rw [hpg] at hple hpb
          obtain ⟨pg0, pg1⟩ := hpb
          have Hpg := Lib.hid hpg
          clear hpg
          go_wp2_with fail
          refine (implPagesAt_any _ _ _ l _ rfl hln _ (HR.out.below hb)).mono ?_
          rintro e w3 ⟨rfl, hb3⟩
          rw [Hpg.out]
          have hb03 := hb.trans (hb3.mono hb.size)
          go_wp2_with fail
          refine (implPagesAt_any _ _ _ l _ rfl hln _ (HR.out.below hb03)).mono ?_
          rintro e w4 ⟨rfl, hb4⟩
          rw [Hpg.out]
          go_wp2
          go_roundg (gk - 1)
          case measure => omega
          case rel => exact ⟨k + 1, acc + pg, by omega, by omega, by go_num, rfl, by omega, by omega, HSA, hb03.trans (hb4.mono hb03.size)⟩
        · have hk60 : k = 60 := by omega
          subst hk60
          have HSM := hsa
          clear hsa hgk hk hlt
          have hb' := hb
          clear hb
          go_wp2_with fail
          refine (at_any _ _ _ cl Hn.out hs 0 (by omega) _ (HC.out.below hb')).mono ?_
          rintro e w3 ⟨y, rfl, y0, y1, rfl⟩
          obtain ⟨K, hK⟩ : ∃ z, y % 20 = z := ⟨_, rfl⟩
          have hK0 : 0 ≤ K := by omega
          have hK1 : K < 20 := by omega
          obtain ⟨f1, f2, f3⟩ := HSF.out K hK0
          obtain ⟨S, hS⟩ : ∃ z, firstShort l K = z := ⟨_, rfl⟩
          rw [hS] at f1 f2 f3
          have HS := Lib.hid hS
          have HK := Lib.hid hK
          have HF1 := Lib.hid f1
          have HF2 := Lib.hid f2
          have HFS := hideP f3
          clear hS hK f1 f2 f3 HSF
          go_wp2_with fail
          refine (implFirstShort_any _ _ _ l _ rfl hln _ (HR.out.below hb')).mono ?_
          rintro e w4 ⟨rfl, hb4⟩
          rw [HK.out, HS.out]
          have hb04 := hb'.trans (hb4.mono hb'.size)
          go_wp2_with fail
          refine (implLeasesFit_any _ _ _ l _ rfl hln _ (HR.out.below hb04)).mono ?_
          rintro e w5 ⟨rfl, hb5⟩
          have hb05 := hb04.trans (hb5.mono hb04.size)
          clear hb' hb4 hb04 hb5
          by_cases hneg : S < 0
          · have hle := HF1.out.1 hneg
            have Hfit := Lib.hid ((HFIT.out K).trans (decide_eq_true hle))
            rw [Hfit.out]
            go_wp2
            go_loopg [11] 61 (fun gk iv wr => ∃ k : Nat, 60 < gk + k ∧ k ≤ 60 ∧ iv = .int .i64 k ∧ Below W.heap.size W wr)
            case atStart => exact ⟨0, by omega, by omega, rfl, hb05⟩
            case round =>
              obtain ⟨k, hgk, hk, rfl, hb⟩ := hrel
              have c : S ≤ (k : Int) := by omega
              clear hgk
              go_wp2
              go_loopg [12, 13] (l.length + 1) (fun gk sm iv wr => ∃ (k : Nat) (b : Bool), l.length < gk + k ∧ k ≤ l.length ∧ iv = .int .i64 k ∧ sm = .bool b ∧ SmallTo l k b ∧ Below W.heap.size W wr)
              case atStart => exact ⟨0, true, by omega, by omega, rfl, rfl, small_start l, hb⟩
              case round =>
                obtain ⟨k, b, hgk, hk, rfl, rfl, hsm, hb⟩ := hrel
                by_cases hlt : k < l.length
                · obtain ⟨x, hx⟩ := some_at hlt
                  obtain ⟨bb, o, ha, hbw, g1, g2, g3⟩ := (HR.out.below hb).rowLease hx
                  subst ha
                  cases b
                  · have Hsm := small_no l (k + 1)
                    clear hx hsm
                    go_wp2
                    go_roundg (gk - 1)
                    case measure => omega
                    case rel => exact ⟨k + 1, false, by omega, by omega, by go_num, rfl, Hsm, hb⟩
                  · by_cases h60 : x.u < 60
                    · have Hsm := small_next hsm hx h60
                      clear hx hsm
                      go_wp2
                      go_roundg (gk - 1)
                      case measure => omega
                      case rel => exact ⟨k + 1, true, by omega, by omega, by go_num, rfl, Hsm, hb⟩
                    · have Hsm := small_no l (k + 1)
                      clear hx hsm
                      go_wp2
                      go_roundg (gk - 1)
                      case measure => omega
                      case rel => exact ⟨k + 1, false, by omega, by omega, by go_num, rfl, Hsm, hb⟩
                · have hkl : k = l.length := by omega
                  subst hkl
                  cases b
                  · go_wp2_with fail
                    refine (implPagesAt_any _ _ _ l _ rfl hln _ (HR.out.below hb)).mono ?_
                    rintro e w2 ⟨rfl, hb2⟩
                    rw [HPT.out]
                    go_wp2
                    go_ret
                    exact ⟨rfl, HB0.out.trans ((hb.trans (hb2.mono hb.size)).mono HB0.out.size)⟩
                  · have Hco := Lib.hid (sum_cost HOK.out (small_end hsm))
                    go_wp2_with fail
                    refine (implPagesAt_any _ _ _ l _ rfl hln _ (HR.out.below hb)).mono ?_
                    rintro e w2 ⟨rfl, hb2⟩
                    rw [HPT.out]
                    have hb02 := hb.trans (hb2.mono hb.size)
                    go_wp2_with fail
                    refine (implLeaseCost_any _ _ _ l rfl hln _ (HR.out.below hb02)).mono ?_
                    rintro e w3 ⟨rfl, hb3⟩
                    rw [← Hco.out, HSM.out]
                    go_wp2
                    go_ret
                    exact ⟨rfl, HB0.out.trans ((hb02.trans (hb3.mono hb02.size)).mono HB0.out.size)⟩
          · have hgt : K < pk := by have := HF1.out; omega
            have Hfit := Lib.hid ((HFIT.out K).trans (decide_eq_false (by omega)))
            have hps := HF2.out (by omega)
            have hpsb := HPB.out S
            obtain ⟨ps, hp⟩ : ∃ z, pagesAt l S = z := ⟨_, rfl⟩
            rw [hp] at hps hpsb
            have HP := Lib.hid hp
            clear hp
            obtain ⟨ps0, ps1⟩ := hpsb
            rw [Hfit.out]
            go_wp2_with fail
            refine (implPagesAt_any _ _ _ l _ rfl hln _ (HR.out.below hb05)).mono ?_
            rintro e w6 ⟨rfl, hb6⟩
            rw [HP.out]
            have hb06 := hb05.trans (hb6.mono hb05.size)
            clear hb05 hb6
            go_wp2
            go_loopg [11] 61 (fun gk iv wr => ∃ k : Nat, 60 < gk + k ∧ k ≤ 60 ∧ iv = .int .i64 k ∧ Below W.heap.size W wr)
            case atStart => exact ⟨0, by omega, by omega, rfl, hb06⟩
            case round =>
              obtain ⟨k, hgk, hk, rfl, hb⟩ := hrel
              by_cases hlt : (k : Int) < S ∧ k < 60
              · obtain ⟨l1, l2⟩ := hlt
                obtain ⟨pg, hpg⟩ : ∃ z, pagesAt l (k : Int) = z := ⟨_, rfl⟩
                have hple := HFS.out (k : Int) l1 (by omega)
                rw [hpg] at hple
                have Hpg := Lib.hid hpg
                clear hpg
                go_wp2_with fail
                refine (implPagesAt_any _ _ _ l _ rfl hln _ (HR.out.below hb)).mono ?_
                rintro e w2 ⟨rfl, hb2⟩
                rw [Hpg.out]
                go_wp2
                go_roundg (gk - 1)
                case measure => omega
                case rel => exact ⟨k + 1, by omega, by omega, by go_num, hb.trans (hb2.mono hb.size)⟩
              · have c : S ≤ (k : Int) ∨ ((k : Int) < S ∧ 60 ≤ k) := by omega
                clear hlt hgk
                rcases c with c | ⟨c, c'⟩
                all_goals
                  go_wp2
                  go_loopg [12, 13] (l.length + 1) (fun gk sm iv wr => ∃ (k : Nat) (b : Bool), l.length < gk + k ∧ k ≤ l.length ∧ iv = .int .i64 k ∧ sm = .bool b ∧ SmallTo l k b ∧ Below W.heap.size W wr)
                  case atStart => exact ⟨0, true, by omega, by omega, rfl, rfl, small_start l, hb⟩
                  case round =>
                    obtain ⟨k, b, hgk, hk, rfl, rfl, hsm, hb⟩ := hrel
                    by_cases hlt : k < l.length
                    · obtain ⟨x, hx⟩ := some_at hlt
                      obtain ⟨bb, o, ha, hbw, g1, g2, g3⟩ := (HR.out.below hb).rowLease hx
                      subst ha
                      cases b
                      · have Hsm := small_no l (k + 1)
                        clear hx hsm
                        go_wp2
                        go_roundg (gk - 1)
                        case measure => omega
                        case rel => exact ⟨k + 1, false, by omega, by omega, by go_num, rfl, Hsm, hb⟩
                      · by_cases h60 : x.u < 60
                        · have Hsm := small_next hsm hx h60
                          clear hx hsm
                          go_wp2
                          go_roundg (gk - 1)
                          case measure => omega
                          case rel => exact ⟨k + 1, true, by omega, by omega, by go_num, rfl, Hsm, hb⟩
                        · have Hsm := small_no l (k + 1)
                          clear hx hsm
                          go_wp2
                          go_roundg (gk - 1)
                          case measure => omega
                          case rel => exact ⟨k + 1, false, by omega, by omega, by go_num, rfl, Hsm, hb⟩
                    · have hkl : k = l.length := by omega
                      subst hkl
                      cases b
                      · go_wp2_with fail
                        refine (implPagesAt_any _ _ _ l _ rfl hln _ (HR.out.below hb)).mono ?_
                        rintro e w2 ⟨rfl, hb2⟩
                        rw [HPT.out]
                        go_wp2
                        go_ret
                        exact ⟨rfl, HB0.out.trans ((hb.trans (hb2.mono hb.size)).mono HB0.out.size)⟩
                      · have Hco := Lib.hid (sum_cost HOK.out (small_end hsm))
                        go_wp2_with fail
                        refine (implPagesAt_any _ _ _ l _ rfl hln _ (HR.out.below hb)).mono ?_
                        rintro e w2 ⟨rfl, hb2⟩
                        rw [HPT.out]
                        have hb02 := hb.trans (hb2.mono hb.size)
                        go_wp2_with fail
                        refine (implLeaseCost_any _ _ _ l rfl hln _ (HR.out.below hb02)).mono ?_
                        rintro e w3 ⟨rfl, hb3⟩
                        rw [← Hco.out, HSM.out]
                        go_wp2
                        go_ret
                        exact ⟨rfl, HB0.out.trans ((hb02.trans (hb3.mono hb02.size)).mono HB0.out.size)⟩
  · have d0 : decide (1048576 < n) = true := by simpa using hs
    go_enter Try.func6, Try.ntmps6
    go_wp2_with fail
    refine (big_any _ _ _ _ hl).mono ?_
    rintro e w' ⟨rfl, rfl⟩
    rw [d0]
    go_wp2
    go_ret
    exact ⟨rfl, Below.refl _ _⟩
end Go.Proofs.Ytclananddmjnaaa
