/- JournalAdd of the program. -/
import Derived.Test.YtamfgkicmikmbaaDoorJournalAddS
import Derived.Test.YtamfgkicmikmbaaDoorJournalI
import Derived.Test.YtamfgkicmikmbaaDoorShowEntry
import Derived.Test.YtamfgkicmikmbaaDoorVarW
import Derived.Lib.QuietBelow
namespace Go.Proofs.YtamfgkicmikmbaaDoor
open Go.RowKit

set_option maxRecDepth 100000 in
set_option maxHeartbeats 4000000 in
theorem implJournalAdd_any (s : ByteArray) (hs : s.size ≤ 1048576) (x : Entry) (w : World) (hd : Doors w) (m : Int) (hm : w.cell? ⟨0, 0, none⟩ = some (.int .i64 m)) :
    Calls Tryd.prog 16 #[.string s, .agg x.cells] w fun e w' => e = .returned (addRes s x) ∧ Below w.heap.size w w' := by
  have HD := hideP hd
  have HM := hideP hm
  have hw0 : 0 < w.heap.size := World.block_lt_of_cell? _ _ hm
  clear hd hm
  have HB := hideP (below_a1 w (.cells x.cells 25))
  have B0 := hideP (Blk.new w x.cells 25)
  have hsl := bl_length s
  go_enter Tryd.func16, Tryd.ntmps16
  unfold Entry.cells
  go_wp2_with fail
  refine (implJournalRead_any s hs _ (HD.out.below HB.out) m ((HB.out.cell (p := ⟨0, 0, none⟩) hw0).trans HM.out)).mono ?_
  rintro e w1 ⟨v, rfl, ho, hb1⟩
  obtain ⟨p, c, rfl, _⟩ := owns_slice ho
  have B0 := hideP (B0.out.below hb1)
  have HB := hideP (HB.out.trans (hb1.mono HB.out.size))
  clear ho hb1
  have e0 : w1.cell? ⟨w.heap.size, 0, none⟩ = some (.int .i64 x.k) := (B0.out.cell 0).trans rfl
  have e1 : w1.cell? ⟨w.heap.size, 1, none⟩ = some (.int .i64 x.p) := (B0.out.cell 1).trans rfl
  have e2 : w1.cell? ⟨w.heap.size, 2, none⟩ = some (.int .i64 x.t) := (B0.out.cell 2).trans rfl
  have e3 : w1.cell? ⟨w.heap.size, 3, none⟩ = some (.int .i64 x.ck) := (B0.out.cell 3).trans rfl
  have e4 : w1.cell? ⟨w.heap.size, 4, none⟩ = some (.int .i64 x.ca) := (B0.out.cell 4).trans rfl
  have e5 : w1.cell? ⟨w.heap.size, 5, none⟩ = some (.int .i64 x.cb) := (B0.out.cell 5).trans rfl
  have e6 : w1.cell? ⟨w.heap.size, 6, none⟩ = some (.int .i64 x.cc) := (B0.out.cell 6).trans rfl
  have e7 : w1.cell? ⟨w.heap.size, 7, none⟩ = some (.int .i64 x.cd) := (B0.out.cell 7).trans rfl
  have e8 : w1.cell? ⟨w.heap.size, 8, none⟩ = some (.int .i64 x.ce) := (B0.out.cell 8).trans rfl
  go_wp2_with fail
  refine (implEntryOk_any x _).mono ?_
  rintro e w2 ⟨rfl, hb2⟩
  have B0 := hideP (B0.out.below hb2)
  have HB := hideP (HB.out.trans (hb2.mono HB.out.size))
  clear hb2 e0 e1 e2 e3 e4 e5 e6 e7 e8
  cases tok : entryOk x
  · have HN := hideP (addRes_no (s := s) (.inl tok))
    clear tok
    go_wp2
    go_ret2
    exact ⟨by rw [HN.out]; rfl, HB.out⟩
  · by_cases hl : (jEs (bl s)).length < 200
    · have HN := hideP (addRes_yes (s := s) tok hl)
      have hja := journal_le 200 (bl s)
      rw [hsl] at hja
      obtain ⟨a, ha⟩ : ∃ a, jAt (bl s) = a := ⟨_, rfl⟩
      have ha9 : a ≤ s.size := by rw [← ha]; exact hja
      rw [ha] at HN ⊢
      have hsl9 := showEntry_len x
      obtain ⟨T, hT⟩ : ∃ T, showEntry x = T := ⟨_, rfl⟩
      rw [hT] at HN hsl9
      have d1 : ¬ ((jEs (bl s)).length : Int) ≥ 200 := by omega
      have d2 : (a : Int) ≤ (s.size : Int) := by omega
      clear hl tok hja ha
      have e0 : w2.cell? ⟨w.heap.size, 0, none⟩ = some (.int .i64 x.k) := (B0.out.cell 0).trans rfl
      have e1 : w2.cell? ⟨w.heap.size, 1, none⟩ = some (.int .i64 x.p) := (B0.out.cell 1).trans rfl
      have e2 : w2.cell? ⟨w.heap.size, 2, none⟩ = some (.int .i64 x.t) := (B0.out.cell 2).trans rfl
      have e3 : w2.cell? ⟨w.heap.size, 3, none⟩ = some (.int .i64 x.ck) := (B0.out.cell 3).trans rfl
      have e4 : w2.cell? ⟨w.heap.size, 4, none⟩ = some (.int .i64 x.ca) := (B0.out.cell 4).trans rfl
      have e5 : w2.cell? ⟨w.heap.size, 5, none⟩ = some (.int .i64 x.cb) := (B0.out.cell 5).trans rfl
      have e6 : w2.cell? ⟨w.heap.size, 6, none⟩ = some (.int .i64 x.cc) := (B0.out.cell 6).trans rfl
      have e7 : w2.cell? ⟨w.heap.size, 7, none⟩ = some (.int .i64 x.cd) := (B0.out.cell 7).trans rfl
      have e8 : w2.cell? ⟨w.heap.size, 8, none⟩ = some (.int .i64 x.ce) := (B0.out.cell 8).trans rfl
      go_wp2_with fail
      refine (implShowEntry_any x _ (HD.out.below HB.out).pow).mono ?_
      rw [hT]
      rintro e w3 ⟨rfl, hb3⟩
      have HB := hideP (HB.out.trans (hb3.mono HB.out.size))
      clear hb3 e0 e1 e2 e3 e4 e5 e6 e7 e8 hT
      have hv := varS_len (T.length : Int)
      have HF : Hid (frameOf T = low 4 (crc (varS (T.length : Int) ++ T)) ++ (varS (T.length : Int) ++ T)) := hideP rfl
      obtain ⟨V, hV⟩ : ∃ V, varS (T.length : Int) = V := ⟨_, rfl⟩
      rw [hV] at hv HF
      go_wp2_with fail
      refine (implVar_any _ _).mono ?_
      rw [hV]
      rintro e w4 ⟨rfl, hb4⟩
      have HB := hideP (HB.out.trans (hb4.mono HB.out.size))
      clear hb4 hV
      obtain ⟨u, hu⟩ : ∃ u : ByteArray, ({ data := V.toArray } : ByteArray) ++ ({ data := T.toArray } : ByteArray) = u := ⟨_, rfl⟩
      have hbu : bl u = V ++ T := by rw [← hu]; simp [bl]
      have hus : u.size ≤ 2097152 := by rw [← bl_length u, hbu, List.length_append]; omega
      have hlc := crc_lt (bl u)
      have HC : Hid (∀ W, Calls Tryd.prog 32 #[.string u] W fun e w' => e = .returned (.int .i64 (crc (bl u) : Int)) ∧ Below W.heap.size W w') := hideP (fun W => (implCrc_any u hus W).mono fun _ _ h => ⟨h.1, h.2 ▸ Below.refl _ _⟩)
      have HX := hideP (fun W => implFixed_any (crc (bl u)) (by omega) W)
      have hll : (low 4 (crc (bl u))).length ≤ 4 := by rw [low_len]; exact Nat.le_refl _
      have hus2 : u.size ≤ 300 := by rw [← bl_length u, hbu, List.length_append]; omega
      have HA : Hid (Value.string ((s.extract 0 a ++ ({ data := (low 4 (crc (bl u))).toArray } : ByteArray)) ++ u) = .string ⟨((bl s).take a ++ frameOf T).toArray⟩) := hideP (by
        congr 1
        rw [mk_app]
        apply bl_inj
        rw [bl_mk, HF.out, ← hbu]
        simp [bl])
      clear hbu
      go_wp2
      refine wp_region_quiet_below (by kernel_rfl) (by kernel_rfl) ?_
      repeat (first | go_big_quiet_step ((first | (go_at_call 32; exact Calls.regrown_of (HC.out _)) | (go_at_call 31; exact Calls.regrown_of (HX.out _)))) | quiet_step ((first | (go_at_call 32; exact Calls.regrown_of (HC.out _)) | (go_at_call 31; exact Calls.regrown_of (HX.out _)))))
      refine wpQuiet_nil ?_
      intro _ hw'
      obtain ⟨⟨dq, osq⟩, hw''⟩ := hw'
      subst hw''
      obtain ⟨wq, hwq⟩ : ∃ wq, wq = Go.Sort.grow (redrawn w4 dq) osq := ⟨_, rfl⟩
      have hbwq : Below w4.heap.size w4 wq := hwq ▸ below_regrown _ dq osq
      rw [← hwq]
      clear hwq
      have HB := hideP (HB.out.trans (hbwq.mono HB.out.size))
      clear hbwq
      go_wp2
      go_ret2
      exact ⟨by rw [HN.out, ← HA.out]; rfl, HB.out⟩
    · have HN := hideP (addRes_no (s := s) (x := x) (.inr (by omega)))
      have d1 : ((jEs (bl s)).length : Int) ≥ 200 := by omega
      clear tok hl
      go_wp2
      go_ret2
      exact ⟨by rw [HN.out]; rfl, HB.out⟩

end Go.Proofs.YtamfgkicmikmbaaDoor
