/- The walk of FnExactJournalRead. -/
import Derived.Test.YtamfgkicmikmbaaDoorJournalI
import Derived.Test.YtamfgkicmikmbaaDoorJournalS
import Derived.Test.YtamfgkicmikmbaaDoorEntryS
import Derived.Test.YtamfgkicmikmbaaDoorEntryMark
import Derived.Test.YtamfgkicmikmbaaDoorEntryHeld
namespace Go.Proofs.YtamfgkicmikmbaaDoor
open Go.RowKit


set_option maxRecDepth 100000 in
set_option maxHeartbeats 1000000 in
theorem lawFnExactJournalRead_walk (a0 : ByteArray) (_w0 : a0.size ≤ maxLen) (w : World) (hd : Doors w) (m : Int) (hmx : w.cell? ⟨0, 0, none⟩ = some (.int .i64 m)) :
    Calls Tryd.prog 4 #[.string a0] w fun e w' => e = .returned (.bool true) ∧ Below w.heap.size w w' := by
  have hn : (jEs (bl a0)).length ≤ 1048576 := Nat.le_trans (journal_len 200 (bl a0)) (by decide)
  have HD := hideP hd
  have HMX := hideP hmx
  have hw0 : 0 < w.heap.size := World.block_lt_of_cell? _ _ hmx
  clear hd hmx
  have hm := _w0
  unfold maxLen at hm
  by_cases hs : a0.size ≤ 1048576
  · go_enter Tryd.func4, Tryd.ntmps4
    go_wp2_with fail
    refine (specJournalRead_any a0 hs _).mono ?_
    rintro e w1 ⟨v0, rfl, ho0, hb1⟩
    have hjl := journal_le 200 (bl a0)
    rw [bl_length] at hjl
    obtain ⟨p0, c0, rfl, _⟩ := owns_slice ho0
    have Ho0 := Lib.hid ho0
    clear ho0
    go_wp2_with fail
    refine (implJournalRead_any a0 hs _ (HD.out.below hb1) m ((hb1.cell (p := ⟨0, 0, none⟩) hw0).trans HMX.out)).mono ?_
    rintro e w2 ⟨v1, rfl, ho1, hb2⟩
    obtain ⟨p1, c1, rfl, _⟩ := owns_slice ho1
    have Ho1 := Lib.hid ho1
    clear ho1
    have h02 := hb1.trans (hb2.mono hb1.size)
    have s01 := hb1.size
    have s12 := hb2.size
    go_wp2_with fail
    refine (eqEntryS_any _ _ _ _ _ (jEs (bl a0)) rfl hn _ (rd_of_owns Ho1.out) (rd_of_owns (owns_below Ho0.out (Nat.le_refl _) hb2))).mono ?_
    rintro e w3 ⟨rfl, hb3⟩
    have h03 := h02.trans (hb3.mono h02.size)
    have s23 := hb3.size
    have Ho1' := Lib.hid (owns_below Ho1.out (Nat.le_refl _) hb3)
    go_wp2_with fail
    refine (markEntryS_any _ _ _ _ _ (by omega) hn _ Ho1'.out).mono ?_
    rintro e w4 ⟨rfl, ho4, hg4⟩
    have hb4 := below_of_grown hg4 Ho1'.out (Nat.le_trans s12 s23)
    have Ho4 := Lib.hid ho4
    clear ho4
    have h04 := h03.trans (hb4.mono s01)
    have s34 := hb4.size
    go_wp2_with fail
    refine (heldEntryS_any _ _ _ _ (by omega) hn _ (rd_of_owns Ho4.out)).mono ?_
    rintro e w5 ⟨rfl, rfl⟩
    go_wp2_with fail
    refine (implJournalRead_any a0 hs _ (HD.out.below h04) m ((h04.cell (p := ⟨0, 0, none⟩) hw0).trans HMX.out)).mono ?_
    rintro e w5 ⟨v5, rfl, ho5, hb5⟩
    obtain ⟨p5, c5, rfl, _⟩ := owns_slice ho5
    have Ho5 := Lib.hid ho5
    clear ho5
    have h05 := h04.trans (hb5.mono h04.size)
    have s45 := hb5.size
    have h15 := ((hb2.trans (hb3.mono s12)).trans hb4).trans (hb5.mono (Nat.le_trans s12 (Nat.le_trans s23 s34)))
    go_wp2_with fail
    refine (eqEntryS_any _ _ _ _ _ (jEs (bl a0)) rfl hn _ (rd_of_owns Ho5.out) (rd_of_owns (owns_below Ho0.out (Nat.le_refl _) h15))).mono ?_
    rintro e w6 ⟨rfl, hb6⟩
    have h06 := h05.trans (hb6.mono h05.size)
    have h46 := hb5.trans (hb6.mono s45)
    go_wp2_with fail
    refine (heldEntryS_any _ _ _ _ (by omega) hn _ ((rd_of_owns Ho4.out).below h46)).mono ?_
    rintro e w7 ⟨rfl, rfl⟩
    go_wp2
    go_ret
    exact ⟨rfl, h06⟩
  · go_enter Tryd.func4, Tryd.ntmps4
    go_wp2
    go_ret
    exact ⟨rfl, Below.refl _ _⟩

end Go.Proofs.YtamfgkicmikmbaaDoor
