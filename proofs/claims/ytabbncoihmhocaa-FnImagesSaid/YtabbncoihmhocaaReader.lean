/- The walks of the reader's number and flag. -/
import Derived.Test.YtabbncoihmhocaaReadVarI
import Derived.Test.YtabbncoihmhocaaSeqPure
import Derived.Test.YtabbncoihmhocaaBlk
import Derived.Test.YtabbncoihmhocaaCnt
import Derived.Deep.QuietTactic
import Derived.BigQuiet
namespace Go.Proofs.Ytabbncoihmhocaa
open Go.RowKit

theorem grown_set1 {w wr : World} {g i : Nat} {v : Value} (h : w.grownBy wr (some g)) : w.grownBy (wr.setCell ⟨g, i, none⟩ v) (some g) := grown_setCells [v] i h
theorem grown_dN {a b : World} {r : Option Nat} (h : a.grownBy b r) (m : Nat) : a.grownBy (b.drewN m) r := ⟨h.os, h.tape, h.output, h.size, h.block⟩
theorem grown_dr {w wr : World} {r : Option Nat} (h : w.grownBy wr r) : w.grownBy wr.drew r := ⟨h.os, h.tape, h.output, h.size, h.block⟩
theorem grown_tr {a b c : World} {r : Option Nat} (h : a.grownBy b r) (k : b.grownBy c r) : a.grownBy c r :=
  ⟨k.os.trans h.os, k.tape.trans h.tape, k.output.trans h.output, Nat.le_trans h.size k.size, fun n hn hne => (k.block n (Nat.lt_of_lt_of_le hn h.size) hne).trans (h.block n hn hne)⟩
/-- The reader's cells, and nothing else has turned. -/
def RdSt (w : World) (g : Nat) (s : ByteArray) (a : Nat) (b : Bool) (w' : World) : Prop := Blk w' g 53 [.string s, .int .i64 (a : Int), .bool b] ∧ w.grownBy w' (some g)
set_option maxRecDepth 100000 in
set_option maxHeartbeats 2000000 in
theorem number_any (g : Nat) (s : ByteArray) (a : Nat) (b : Bool) (hs : s.size ≤ maxLen) (ha : a ≤ s.size) (w : World) (hB : Blk w g 53 [.string s, .int .i64 (a : Int), .bool b]) :
    Calls Try.prog 24 #[.pointer (some ⟨g, 0, none⟩)] w fun e w' => e = .returned (.int .i64 ((rNum (bl s) a b).1 : Int)) ∧ RdSt w g s (rNum (bl s) a b).2.1 (rNum (bl s) a b).2.2 w' := by
  unfold maxLen at hs
  have HB := Lib.hid hB
  have c0 := hB.cell 0
  have c1 := hB.cell 1
  have c2 := hB.cell 2
  have f1 := hB.frozen 1
  have f2 := hB.frozen 2
  simp only [List.getElem?_cons_zero, List.getElem?_cons_succ] at c0 c1 c2
  have HV : Hid (∀ W, Calls Try.prog 48 #[.string (s.extract a s.size)] W fun e w' => e = .returned (.tuple #[.int .i64 ((readVar ((bl s).drop a)).1 : Int), .int .i64 ((readVar ((bl s).drop a)).2 : Int)]) ∧ W = w') := hideP (fun W => by
    have := implReadVar_any (s.extract a s.size) (by unfold maxLen; rw [ByteArray.size_extract]; omega) W
    rwa [bl_from] at this)
  have hle := readVar_le ((bl s).drop a)
  obtain ⟨hle1, hle2⟩ := hle
  rw [List.length_drop, bl_length] at hle1
  unfold inVar at hle2
  have hai : (a : Int) ≤ (s.size : Int) := by omega
  clear hB
  cases b
  · by_cases hz : (readVar ((bl s).drop a)).2 = 0
    · have HR : Hid (rNum (bl s) a false = (0, a, true)) := hideP (rNum_no2 hz)
      have d1 : (((readVar ((bl s).drop a)).2 : Int) == 0) = true := by simp [hz]
      clear hz
      go_enter Try.func24, Try.ntmps24
      go_wp2
      go_quiet ((go_at_call 48; exact quietL (HV.out _)))
      have HB2 := hideP (HB.out.set 2 (.bool true))
      go_wp2
      go_ret
      exact ⟨by rw [HR.out]; rfl, by rw [HR.out]; exact ⟨HB2.out, grown_set1 (grown_dN (World.grownBy.refl _ _) _)⟩⟩
    · have HR : Hid (rNum (bl s) a false = ((readVar ((bl s).drop a)).1, a + (readVar ((bl s).drop a)).2, false)) := hideP (rNum_yes hz)
      have d1 : (((readVar ((bl s).drop a)).2 : Int) == 0) = false := by simp; omega
      clear hz
      go_enter Try.func24, Try.ntmps24
      go_wp2
      go_quiet ((go_at_call 48; exact quietL (HV.out _)))
      have HB2 := hideP (HB.out.set 1 (.int .i64 ((a : Int) + ((readVar ((bl s).drop a)).2 : Int))))
      go_wp2
      go_ret
      exact ⟨by rw [HR.out]; rfl, by rw [HR.out]; exact ⟨HB2.out, grown_set1 (grown_dN (World.grownBy.refl _ _) _)⟩⟩
  · have HR : Hid (rNum (bl s) a true = (0, a, true)) := hideP (rNum_bad _ _)
    go_enter Try.func24, Try.ntmps24
    go_wp2
    go_quiet ((go_at_call 48; exact quietL (HV.out _)))
    have HB2 := hideP (HB.out.set 2 (.bool true))
    go_wp2
    go_ret
    exact ⟨by rw [HR.out]; rfl, by rw [HR.out]; exact ⟨HB2.out, grown_set1 (grown_dN (World.grownBy.refl _ _) _)⟩⟩

set_option maxRecDepth 100000 in
set_option maxHeartbeats 2000000 in
theorem flag_any (g : Nat) (s : ByteArray) (a : Nat) (b : Bool) (hs : s.size ≤ maxLen) (ha : a ≤ s.size) (w : World) (hB : Blk w g 53 [.string s, .int .i64 (a : Int), .bool b]) :
    Calls Try.prog 23 #[.pointer (some ⟨g, 0, none⟩)] w fun e w' => e = .returned (.bool (rFlag (bl s) a b).1) ∧ RdSt w g s (rFlag (bl s) a b).2.1 (rFlag (bl s) a b).2.2 w' := by
  have hin := (rNum_le (l := bl s) (b := b) (show a ≤ (bl s).length by rw [bl_length]; exact ha)).2
  unfold inVar at hin
  go_enter Try.func23, Try.ntmps23
  go_wp2_with fail
  refine (number_any g s a b hs ha _ hB).mono ?_
  rintro e w2 ⟨rfl, hB2, hg2⟩
  have HB := Lib.hid hB2
  have HG := Lib.hid hg2
  have c2 := hB2.cell 2
  have f2 := hB2.frozen 2
  simp only [List.getElem?_cons_zero, List.getElem?_cons_succ] at c2
  clear hB2 hg2
  by_cases h1 : 1 < (rNum (bl s) a b).1
  · have HF : Hid (rFlag (bl s) a b = (false, (rNum (bl s) a b).2.1, true)) := hideP (by unfold rFlag; simp [h1]; omega)
    have d1 : (((rNum (bl s) a b).1 : Int) == 1) = false := by simp; omega
    have d2 : (1 : Int) < ((rNum (bl s) a b).1 : Int) := by omega
    have HB3 := hideP (HB.out.set 2 (.bool true))
    clear h1
    go_wp2
    go_ret
    exact ⟨by rw [HF.out]; rfl, by rw [HF.out]; exact ⟨HB3.out, grown_set1 HG.out⟩⟩
  · have HF : Hid (rFlag (bl s) a b = (decide ((rNum (bl s) a b).1 = 1), (rNum (bl s) a b).2.1, (rNum (bl s) a b).2.2)) := hideP (by unfold rFlag; simp [h1])
    have d2 : ¬ (1 : Int) < ((rNum (bl s) a b).1 : Int) := by omega
    clear h1
    by_cases h2 : (rNum (bl s) a b).1 = 1
    · have d1 : (((rNum (bl s) a b).1 : Int) == 1) = true := by simp [h2]
      rw [decide_eq_true h2] at HF
      clear h2
      go_wp2
      go_ret
      exact ⟨by rw [HF.out]; rfl, by rw [HF.out]; exact ⟨HB.out, HG.out⟩⟩
    · have d1 : (((rNum (bl s) a b).1 : Int) == 1) = false := by simp; omega
      rw [decide_eq_false h2] at HF
      clear h2
      go_wp2
      go_ret
      exact ⟨by rw [HF.out]; rfl, by rw [HF.out]; exact ⟨HB.out, HG.out⟩⟩

end Go.Proofs.Ytabbncoihmhocaa
