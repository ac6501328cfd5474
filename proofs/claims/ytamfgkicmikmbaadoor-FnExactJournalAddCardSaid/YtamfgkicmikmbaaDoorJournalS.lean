/- JournalRead of the reference. -/
import Derived.Test.YtamfgkicmikmbaaDoorJournalI
import Derived.Test.YtamfgkicmikmbaaDoorFrameS
import Derived.Test.YtamfgkicmikmbaaDoorReadEntryS
import Derived.Test.YtamfgkicmikmbaaDoorReadVarS
import Derived.Lib.QuietBelow
import Derived.Deep.LoopGhost
namespace Go.Proofs.YtamfgkicmikmbaaDoor
open Go.RowKit

theorem frame_lt5 {l : List UInt8} (h : l.length < 5) : frame l = none := by
  unfold frame
  split
  · rfl
  · dsimp only
    rw [if_pos (.inl (by
      have := (readVar_bound (l.drop 4))
      have e : l.drop 4 = [] ∨ ∃ c, l.drop 4 = [c] := by
        match hd : l.drop 4 with
        | [] => exact .inl rfl
        | [c] => exact .inr ⟨c, rfl⟩
        | a :: b :: r => have := congrArg List.length hd; rw [List.length_drop] at this; simp at this; omega
      rcases e with e | ⟨c, e⟩
      · rw [e]; rfl
      · have := congrArg List.length e
        rw [List.length_drop] at this
        simp at this
        omega))]
set_option maxRecDepth 100000 in
set_option maxHeartbeats 4000000 in
theorem specJournalRead_any (s : ByteArray) (hs : s.size ≤ 1048576) (w : World) :
    Calls Tryd.prog 9 #[.string s] w (JRet w (bl s)) := by
  obtain ⟨i0, hi, hz0, hz1, hz2⟩ := info_parts Tryd.infoEnt
  have hsl := bl_length s
  go_enter Tryd.func9, Tryd.ntmps9
  have HO : Hid ((w.alloc (.cells #[] 25)).ownsRow w.heap.size 25 9 (.slice (some ⟨w.heap.size, 0, none⟩) 0 0) 0 (([] : List Entry).flatMap Entry.enc)) := hideP (owns_lit (by omega) rfl (by decide) rfl rfl)
  have HB := hideP (below_a1 w (.cells #[] 25))
  go_wp2
  go_loopg [4, 5] 201 (fun gk sv av wr => ∃ (a : Nat) (es : List Entry) (p : Option Addr) (c : Nat), 200 < gk + es.length ∧ es.length ≤ 200 ∧ a ≤ s.size ∧ av = .int .i64 (a : Int) ∧ sv = .slice p es.length c ∧ Hid (JSo (bl s) es a) ∧ Hid (wr.ownsRow w.heap.size 25 9 (.slice p es.length c) es.length (es.flatMap Entry.enc)) ∧ Hid (Below w.heap.size w wr))
  case atStart => exact ⟨0, [], _, _, by simp, by simp, by omega, rfl, rfl, hideP (JSo.start _), HO, HB⟩
  case round =>
    clear HO HB
    obtain ⟨a, es, p, c, hgk, hes, ha, rfl, rfl, HJ, HO, HB⟩ := hrel
    by_cases hlt : es.length < 200
    · have k1 : (es.length : Int) < 200 := by omega
      by_cases h5 : s.size - a < 5
      · have d5 : (s.size : Int) - (a : Int) < 5 := by omega
        have HE := hideP (HJ.out.stop hlt (frame_lt5 (by rw [List.length_drop, hsl]; exact h5)))
        go_wp2
        go_ret2
        refine ⟨_, by rw [HE.out.2]; rfl, ?_, HB.out⟩
        rw [HE.out.1]
        exact HO.out
      · have d5 : ¬ (s.size : Int) - (a : Int) < 5 := by omega
        have d6 : (a : Int) + 4 ≤ (s.size : Int) := by omega
        have d7 : (0 : Int) ≤ (a : Int) + 4 := by omega
        obtain ⟨t, ht⟩ : ∃ t, s.extract (a + 4) s.size = t := ⟨_, rfl⟩
        have hbt : bl t = ((bl s).drop a).drop 4 := by rw [← ht, bl_from, List.drop_drop]
        have hts : t.size ≤ maxLen := by rw [← bl_length t, hbt, List.length_drop, List.length_drop, hsl]; unfold maxLen; omega
        have HT := hideP hbt
        obtain ⟨n, k, hr⟩ : ∃ n k, readVar (((bl s).drop a).drop 4) = (n, k) := ⟨_, _, rfl⟩
        have hbd := readVar_bound (((bl s).drop a).drop 4)
        rw [hr, List.length_drop, List.length_drop, hsl] at hbd
        dsimp only at hbd
        obtain ⟨hn9, hk7, hkl⟩ := hbd
        have HR := hideP hr
        have hD : ((bl s).drop a).length = s.size - a := by rw [List.length_drop, hsl]
        clear hbt hr
        go_wp2_with fail
        refine (specReadVar_any t hts _).mono ?_
        rw [HT.out, HR.out]
        rintro e w2 ⟨rfl, hb2⟩
        have HO := hideP (owns_below HO.out (Nat.le_refl _) hb2)
        have HB := hideP (HB.out.trans (hb2.mono HB.out.size))
        clear hb2
        by_cases hk0 : k = 0
        · have e0 : ((k : Int) == 0) = true := by simp; omega
          have HE := hideP (HJ.out.stop hlt (frame_no HR.out (.inl hk0)))
          go_wp2
          go_ret2
          refine ⟨_, by rw [HE.out.2]; rfl, ?_, HB.out⟩
          rw [HE.out.1]
          exact HO.out
        · have e0 : ((k : Int) == 0) = false := by simp; omega
          by_cases hnl : s.size - a - 4 < k + n
          · have e1 : (n : Int) > (s.size : Int) - (a : Int) - 4 - (k : Int) := by omega
            have HE := hideP (HJ.out.stop hlt (frame_no HR.out (.inr (.inl (by rw [hD]; exact hnl)))))
            go_wp2
            go_ret2
            refine ⟨_, by rw [HE.out.2]; rfl, ?_, HB.out⟩
            rw [HE.out.1]
            exact HO.out
          · have e1 : ¬ (n : Int) > (s.size : Int) - (a : Int) - 4 - (k : Int) := by omega
            have HS := hideP (frame_spec (l := (bl s).drop a) (n := n) (k := k) (by omega) HR.out hk0 (by omega))
            obtain ⟨u, hu⟩ : ∃ u, s.extract (a + 4 + k) (a + 4 + k + n) = u := ⟨_, rfl⟩
            have hbu : bl u = ((((bl s).drop a).drop 4).drop k).take n := by rw [← hu, bl_extract, Nat.add_sub_cancel_left, List.drop_drop, List.drop_drop, Nat.add_assoc]
            have hus : u.size ≤ 1048576 := by rw [← bl_length u, hbu, List.length_take, List.length_drop, List.length_drop, List.length_drop, hsl]; omega
            have HU := hideP hbu
            obtain ⟨v, hv⟩ : ∃ v, s.extract a (a + 4 + k + n) = v := ⟨_, rfl⟩
            have HV : Hid (bl v = ((bl s).drop a).take (4 + k + n)) := hideP (by rw [← hv, bl_extract]; congr 1; omega)
            have f1 : (a : Int) + 4 + (k : Int) ≤ (a : Int) + 4 + (k : Int) + (n : Int) := by omega
            have f2 : (a : Int) + 4 + (k : Int) + (n : Int) ≤ (s.size : Int) := by omega
            have f3 : (0 : Int) ≤ (a : Int) + 4 + (k : Int) := by omega
            have f4 : (a : Int) ≤ (a : Int) + 4 + (k : Int) + (n : Int) := by omega
            clear hbu
            go_wp2_with fail
            refine (specReadEntry_any u hus _).mono ?_
            rw [HU.out]
            cases hre : readEntry (((((bl s).drop a).drop 4).drop k).take n) with
            | none =>
              have HN0 : Hid (frame ((bl s).drop a) = none) := hideP (by rw [HS.out, hre]; split <;> rfl)
              rw [show entRes (((((bl s).drop a).drop 4).drop k).take n) = .tuple #[.agg #[.int .i64 0, .int .i64 0, .int .i64 0, .int .i64 0, .int .i64 0, .int .i64 0, .int .i64 0, .int .i64 0, .int .i64 0], .bool false] from by unfold entRes; rw [hre]; rfl]
              rintro e w3 ⟨rfl, hb3⟩
              have HO := hideP ((owns_below HO.out (Nat.le_refl _) hb3).alloc (.cells #[.int .i64 0, .int .i64 0, .int .i64 0, .int .i64 0, .int .i64 0, .int .i64 0, .int .i64 0, .int .i64 0, .int .i64 0] 25))
              have HB := hideP ((HB.out.trans (hb3.mono HB.out.size)).alloc (by have := HB.out.size; have := hb3.size; omega) (.cells #[.int .i64 0, .int .i64 0, .int .i64 0, .int .i64 0, .int .i64 0, .int .i64 0, .int .i64 0, .int .i64 0, .int .i64 0] 25))
              clear hb3 hre
              have HE := hideP (HJ.out.stop hlt HN0.out)
              obtain ⟨W9, hW9⟩ : ∃ W9 : World, W9 = w3.alloc (.cells #[.int .i64 0, .int .i64 0, .int .i64 0, .int .i64 0, .int .i64 0, .int .i64 0, .int .i64 0, .int .i64 0, .int .i64 0] 25) := ⟨_, rfl⟩
              rw [← hW9] at HO HB
              go_wp2
              rw [← hW9]
              clear hW9
              refine wp_region_quiet_below (by kernel_rfl) (by kernel_rfl) ?_
              repeat (first | go_big_quiet_step ((first | (go_at_call 23; exact Calls.regrown_of (l24Frame_any u hus _)))) | quiet_step ((first | (go_at_call 23; exact Calls.regrown_of (l24Frame_any u hus _)))))
              refine wpQuiet_nil ?_
              intro _ hw'
              obtain ⟨⟨dq, osq⟩, hw''⟩ := hw'
              subst hw''
              obtain ⟨wq, hwq⟩ : ∃ wq, wq = Go.Sort.grow (redrawn W9 dq) osq := ⟨_, rfl⟩
              have hbwq : Below W9.heap.size W9 wq := hwq ▸ below_regrown _ dq osq
              rw [← hwq]
              clear hwq
              have HO := hideP (owns_below HO.out (Nat.le_refl _) hbwq)
              have HB := hideP (HB.out.trans (hbwq.mono HB.out.size))
              clear hbwq
              go_wp2
              go_ret2
              refine ⟨_, by rw [HE.out.2]; rfl, ?_, HB.out⟩
              rw [HE.out.1]
              exact HO.out
            | some E =>
              rw [show entRes (((((bl s).drop a).drop 4).drop k).take n) = .tuple #[.agg E.cells, .bool true] from by unfold entRes; rw [hre]; rfl]
              rintro e w3 ⟨rfl, hb3⟩
              obtain ⟨a0, a1, a2, a3, a4, a5, a6, a7, a8⟩ := E
              rw [hre] at HS
              unfold Entry.cells
              have HO := hideP ((owns_below HO.out (Nat.le_refl _) hb3).alloc (.cells #[.int .i64 a0, .int .i64 a1, .int .i64 a2, .int .i64 a3, .int .i64 a4, .int .i64 a5, .int .i64 a6, .int .i64 a7, .int .i64 a8] 25))
              have HB := hideP ((HB.out.trans (hb3.mono HB.out.size)).alloc (by have := HB.out.size; have := hb3.size; omega) (.cells #[.int .i64 a0, .int .i64 a1, .int .i64 a2, .int .i64 a3, .int .i64 a4, .int .i64 a5, .int .i64 a6, .int .i64 a7, .int .i64 a8] 25))
              have BE := hideP (Blk.new w3 #[.int .i64 a0, .int .i64 a1, .int .i64 a2, .int .i64 a3, .int .i64 a4, .int .i64 a5, .int .i64 a6, .int .i64 a7, .int .i64 a8] 25)
              clear hb3 hre
              have hcmp : v.toList = bl v := ByteArray.toList_eq v
              by_cases hF : ((bl s).drop a).take (4 + k + n) = frameOf (((((bl s).drop a).drop 4).drop k).take n)
              · have HJ2 := hideP (HJ.out.step hlt (HS.out.trans (if_pos hF)))
                have e9 : (v.toList == frameOf (bl u)) = true := by rw [hcmp, HV.out, HU.out, hF]; simp
                obtain ⟨W9, hW9⟩ : ∃ W9 : World, W9 = w3.alloc (.cells #[.int .i64 a0, .int .i64 a1, .int .i64 a2, .int .i64 a3, .int .i64 a4, .int .i64 a5, .int .i64 a6, .int .i64 a7, .int .i64 a8] 25) := ⟨_, rfl⟩
                rw [← hW9] at HO HB BE
                clear hF hcmp HJ HS
                go_wp2
                rw [← hW9]
                clear hW9
                refine wp_region_quiet_below (by kernel_rfl) (by kernel_rfl) ?_
                repeat (first | go_big_quiet_step ((first | (go_at_call 23; exact Calls.regrown_of (l24Frame_any u hus _)))) | quiet_step ((first | (go_at_call 23; exact Calls.regrown_of (l24Frame_any u hus _)))))
                refine wpQuiet_nil ?_
                intro _ hw'
                obtain ⟨⟨dq, osq⟩, hw''⟩ := hw'
                subst hw''
                obtain ⟨wq, hwq⟩ : ∃ wq, wq = Go.Sort.grow (redrawn W9 dq) osq := ⟨_, rfl⟩
                have hbwq : Below W9.heap.size W9 wq := hwq ▸ below_regrown _ dq osq
                rw [← hwq]
                clear hwq
                have HO := hideP (owns_below HO.out (Nat.le_refl _) hbwq)
                have HB := hideP (HB.out.trans (hbwq.mono HB.out.size))
                have BE := hideP (BE.out.below hbwq)
                clear hbwq
                have g0 : wq.cell? ⟨w3.heap.size, 0, none⟩ = some (.int .i64 a0) := (BE.out.cell 0).trans rfl
                have g1 : wq.cell? ⟨w3.heap.size, 1, none⟩ = some (.int .i64 a1) := (BE.out.cell 1).trans rfl
                have g2 : wq.cell? ⟨w3.heap.size, 2, none⟩ = some (.int .i64 a2) := (BE.out.cell 2).trans rfl
                have g3 : wq.cell? ⟨w3.heap.size, 3, none⟩ = some (.int .i64 a3) := (BE.out.cell 3).trans rfl
                have g4 : wq.cell? ⟨w3.heap.size, 4, none⟩ = some (.int .i64 a4) := (BE.out.cell 4).trans rfl
                have g5 : wq.cell? ⟨w3.heap.size, 5, none⟩ = some (.int .i64 a5) := (BE.out.cell 5).trans rfl
                have g6 : wq.cell? ⟨w3.heap.size, 6, none⟩ = some (.int .i64 a6) := (BE.out.cell 6).trans rfl
                have g7 : wq.cell? ⟨w3.heap.size, 7, none⟩ = some (.int .i64 a7) := (BE.out.cell 7).trans rfl
                have g8 : wq.cell? ⟨w3.heap.size, 8, none⟩ = some (.int .i64 a8) := (BE.out.cell 8).trans rfl
                go_wp2_with (at_builtin; refine wpList_append_rd _ rfl _ _ 30 rfl w.heap.size 25 i0 (.agg #[.int .i64 0, .int .i64 0, .int .i64 0, .int .i64 0, .int .i64 0, .int .i64 0, .int .i64 0, .int .i64 0, .int .i64 0]) 9 72 Tryd.underlying30 hi hz0 hz1 hz2 rfl (by decide) _ es.length _ rfl (World.ownsRow.alloc HO.out _) _ 1 1 [.int .i64 a0, .int .i64 a1, .int .i64 a2, .int .i64 a3, .int .i64 a4, .int .i64 a5, .int .i64 a6, .int .i64 a7, .int .i64 a8] rfl rfl (rd_lit rfl) ?c1 ?c2 ?c3 ?c4 ?_)
                case c1 => simp [Value.oneCell']
                case c2 => unfold maxLen; omega
                case c3 => omega
                case c4 => exact Nat.le_trans HB.out.size (by simp)
                intro v9 w9 ho9 hg9
                obtain ⟨p9, c9, rfl, _⟩ := owns_slice ho9
                have HO9 : Hid (w9.ownsRow w.heap.size 25 9 (.slice p9 (es.length + 1) c9) (es ++ [(⟨a0, a1, a2, a3, a4, a5, a6, a7, a8⟩ : Entry)]).length ((es ++ [(⟨a0, a1, a2, a3, a4, a5, a6, a7, a8⟩ : Entry)]).flatMap Entry.enc)) := hideP (by rw [flat_snoc, List.length_append]; exact ho9)
                have HB9 := hideP ((HB.out.alloc HB.out.size (.cells #[.int .i64 a0, .int .i64 a1, .int .i64 a2, .int .i64 a3, .int .i64 a4, .int .i64 a5, .int .i64 a6, .int .i64 a7, .int .i64 a8] 25)).grown hg9 (Nat.le_trans HB.out.size (by simp)) (fun q e => (HO.out.lt q e).1))
                clear ho9 hg9
                clear HO HB BE g0 g1 g2 g3 g4 g5 g6 g7 g8
                go_wp2
                go_roundg (gk - 1)
                case measure => omega
                case rel => exact ⟨a + 4 + k + n, es ++ [⟨a0, a1, a2, a3, a4, a5, a6, a7, a8⟩], p9, c9, by simp; omega, by simp; omega, by omega, by go_num, by simp, by rw [show a + 4 + k + n = a + (4 + k + n) by omega]; exact HJ2, by simpa using HO9, HB9⟩
              · have HE := hideP (HJ.out.stop hlt (HS.out.trans (if_neg hF)))
                have e9 : (v.toList == frameOf (bl u)) = false := by rw [hcmp, HV.out, HU.out]; simpa using hF
                obtain ⟨W9, hW9⟩ : ∃ W9 : World, W9 = w3.alloc (.cells #[.int .i64 a0, .int .i64 a1, .int .i64 a2, .int .i64 a3, .int .i64 a4, .int .i64 a5, .int .i64 a6, .int .i64 a7, .int .i64 a8] 25) := ⟨_, rfl⟩
                rw [← hW9] at HO HB BE
                clear hF hcmp HJ HS
                go_wp2
                rw [← hW9]
                clear hW9
                refine wp_region_quiet_below (by kernel_rfl) (by kernel_rfl) ?_
                repeat (first | go_big_quiet_step ((first | (go_at_call 23; exact Calls.regrown_of (l24Frame_any u hus _)))) | quiet_step ((first | (go_at_call 23; exact Calls.regrown_of (l24Frame_any u hus _)))))
                refine wpQuiet_nil ?_
                intro _ hw'
                obtain ⟨⟨dq, osq⟩, hw''⟩ := hw'
                subst hw''
                obtain ⟨wq, hwq⟩ : ∃ wq, wq = Go.Sort.grow (redrawn W9 dq) osq := ⟨_, rfl⟩
                have hbwq : Below W9.heap.size W9 wq := hwq ▸ below_regrown _ dq osq
                rw [← hwq]
                clear hwq
                have HO := hideP (owns_below HO.out (Nat.le_refl _) hbwq)
                have HB := hideP (HB.out.trans (hbwq.mono HB.out.size))
                clear hbwq
                go_wp2
                go_ret2
                refine ⟨_, by rw [HE.out.2]; rfl, ?_, HB.out⟩
                rw [HE.out.1]
                exact HO.out
    · have HE := hideP (HJ.out.full (by omega))
      have k1 : ¬ (es.length : Int) < 200 := by omega
      go_wp2
      go_ret2
      refine ⟨_, by rw [HE.out.2]; rfl, ?_, HB.out⟩
      rw [HE.out.1]
      exact HO.out

end Go.Proofs.YtamfgkicmikmbaaDoor
