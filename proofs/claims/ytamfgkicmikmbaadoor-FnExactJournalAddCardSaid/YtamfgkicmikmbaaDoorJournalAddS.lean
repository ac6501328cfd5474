/- JournalAdd of the reference. -/
import Derived.Test.YtamfgkicmikmbaaDoorJournalS
import Derived.Test.YtamfgkicmikmbaaDoorLawShowEntry
import Derived.Test.YtamfgkicmikmbaaDoorFrameS
import Derived.Lib.QuietBelow
namespace Go.Proofs.YtamfgkicmikmbaaDoor
open Go.RowKit

def addOk (l : List UInt8) (x : Entry) : Bool := entryOk x && decide ((jEs l).length < 200)
def addV (s : ByteArray) (x : Entry) : Value := if addOk (bl s) x = true then .string ⟨((bl s).take (jAt (bl s)) ++ frameOf (showEntry x)).toArray⟩ else .string s
def addRes (s : ByteArray) (x : Entry) : Value := .tuple #[addV s x, .bool (addOk (bl s) x)]
theorem addRes_no {s : ByteArray} {x : Entry} (h : entryOk x = false ∨ 200 ≤ (jEs (bl s)).length) : addRes s x = .tuple #[.string s, .bool false] := by
  have : addOk (bl s) x = false := by
    unfold addOk
    rcases h with h | h
    · rw [h]; rfl
    · rw [decide_eq_false (by omega), Bool.and_false]
  unfold addRes addV
  rw [this]
  rfl
theorem addRes_yes {s : ByteArray} {x : Entry} (h1 : entryOk x = true) (h2 : (jEs (bl s)).length < 200) : addRes s x = .tuple #[.string ⟨((bl s).take (jAt (bl s)) ++ frameOf (showEntry x)).toArray⟩, .bool true] := by
  have : addOk (bl s) x = true := by
    unfold addOk
    rw [h1, decide_eq_true h2]; rfl
  unfold addRes addV
  rw [this]
  rfl
theorem showEntry_len (x : Entry) : (showEntry x).length ≤ 198 := by
  unfold showEntry
  split
  · next h =>
    have := join_len (itoas_len (entry_in h))
    rw [List.length_map] at this
    exact this
  · simp
theorem frameOf_len (l : List UInt8) : (frameOf l).length ≤ l.length + 12 := by
  unfold frameOf
  have := varS_len (l.length : Int)
  rw [List.length_append, List.length_append, low_len]
  omega
theorem mk_app (s : ByteArray) (a : Nat) (l : List UInt8) : s.extract 0 a ++ ({ data := l.toArray } : ByteArray) = ⟨((bl s).take a ++ l).toArray⟩ := by
  apply bl_inj
  rw [bl_mk]
  have h1 : bl (s.extract 0 a) = (bl s).take a := by rw [bl_extract, List.drop_zero, Nat.sub_zero]
  rw [← h1]
  simp [bl]
set_option maxRecDepth 100000 in
set_option maxHeartbeats 4000000 in
theorem specJournalAdd_any (s : ByteArray) (hs : s.size ≤ 1048576) (x : Entry) (w : World) :
    Calls Tryd.prog 14 #[.string s, .agg x.cells] w fun e w' => e = .returned (addRes s x) ∧ Below w.heap.size w w' := by
  have HB := hideP (below_a1 w (.cells x.cells 25))
  have B0 := hideP (Blk.new w x.cells 25)
  have hsl := bl_length s
  go_enter Tryd.func14, Tryd.ntmps14
  unfold Entry.cells
  go_wp2_with fail
  refine (specJournalRead_any s hs _).mono ?_
  rintro e w1 ⟨v, rfl, ho, hb1⟩
  obtain ⟨p, c, rfl, _⟩ := owns_slice ho
  have B0 := hideP (B0.out.below hb1)
  have HB := hideP (HB.out.trans (hb1.mono HB.out.size))
  clear ho hb1
  have e0 : w1.cell? ⟨w.heap.size, 0, none⟩ = some (.int .i64 x.k) := (B0.out.cell 0).trans rfl
  have e1 : w1.cell? ⟨w.heap.size, 1, none⟩ = some (.int .i64 x.p) := (B0.out.cell 1).trans rfl
  have e2 : w1.cell? ⟨w.heap.size, 2, none⟩ = some (.int .i64 x.t) := (B0.out.cell 2).trans rfl
  have e3 : w1.cell? ⟨w.heap.size, 3, none⟩ = some (.int .i64 x.ck) := (B0.out.cell 3).trans rfl
  have e4 : w1.cell? ⟨w.heap.size, 4, none⟩ = some (.int .i64 x.ca) := (B0.out.cell 4).trans rfl
  have e5 : w1.cell? ⟨w.heap.size, 5, none⟩ = some (.int .i64 x.cb) := (B0.out.cell 5).trans rfl
  have e6 : w1.cell? ⟨w.heap.size, 6, none⟩ = some (.int .i64 x.cc) := (B0.out.cell 6).trans rfl
  have e7 : w1.cell? ⟨w.heap.size, 7, none⟩ = some (.int .i64 x.cd) := (B0.out.cell 7).trans rfl
  have e8 : w1.cell? ⟨w.heap.size, 8, none⟩ = some (.int .i64 x.ce) := (B0.out.cell 8).trans rfl
  go_wp2_with fail
  refine (specEntryOk_any x _).mono ?_
  rintro e w2 ⟨rfl, hb2⟩
  have B0 := hideP (B0.out.below hb2)
  have HB := hideP (HB.out.trans (hb2.mono HB.out.size))
  clear hb2 e0 e1 e2 e3 e4 e5 e6 e7 e8
  cases tok : entryOk x
  · have HN := hideP (addRes_no (s := s) (.inl tok))
    clear tok
    go_wp2
    go_ret2
    exact ⟨by rw [HN.out]; rfl, HB.out⟩
  · by_cases hl : (jEs (bl s)).length < 200
    · have HN := hideP (addRes_yes (s := s) tok hl)
      have hja := journal_le 200 (bl s)
      rw [hsl] at hja
      obtain ⟨a, ha⟩ : ∃ a, jAt (bl s) = a := ⟨_, rfl⟩
      have ha9 : a ≤ s.size := by rw [← ha]; exact hja
      rw [ha] at HN ⊢
      have hA := mk_app s a (frameOf (showEntry x))
      have hfl : (frameOf (showEntry x)).length ≤ 300 := by have := frameOf_len (showEntry x); have := showEntry_len x; omega
      have hsz : (ByteArray.mk (showEntry x).toArray).size ≤ 1048576 := by have := showEntry_len x; show (showEntry x).toArray.size ≤ _; simp; omega
      have HF := hideP (fun W => l24Frame_any ⟨(showEntry x).toArray⟩ hsz W)
      rw [bl_mk] at HF
      have d1 : ¬ ((jEs (bl s)).length : Int) ≥ 200 := by omega
      have d2 : (a : Int) ≤ (s.size : Int) := by omega
      have HA := hideP hA
      clear hl tok hja ha hA
      have e0 : w2.cell? ⟨w.heap.size, 0, none⟩ = some (.int .i64 x.k) := (B0.out.cell 0).trans rfl
      have e1 : w2.cell? ⟨w.heap.size, 1, none⟩ = some (.int .i64 x.p) := (B0.out.cell 1).trans rfl
      have e2 : w2.cell? ⟨w.heap.size, 2, none⟩ = some (.int .i64 x.t) := (B0.out.cell 2).trans rfl
      have e3 : w2.cell? ⟨w.heap.size, 3, none⟩ = some (.int .i64 x.ck) := (B0.out.cell 3).trans rfl
      have e4 : w2.cell? ⟨w.heap.size, 4, none⟩ = some (.int .i64 x.ca) := (B0.out.cell 4).trans rfl
      have e5 : w2.cell? ⟨w.heap.size, 5, none⟩ = some (.int .i64 x.cb) := (B0.out.cell 5).trans rfl
      have e6 : w2.cell? ⟨w.heap.size, 6, none⟩ = some (.int .i64 x.cc) := (B0.out.cell 6).trans rfl
      have e7 : w2.cell? ⟨w.heap.size, 7, none⟩ = some (.int .i64 x.cd) := (B0.out.cell 7).trans rfl
      have e8 : w2.cell? ⟨w.heap.size, 8, none⟩ = some (.int .i64 x.ce) := (B0.out.cell 8).trans rfl
      go_wp2
      have q_e0 := fun d os => cell_regrown e0 d os
      have q_e1 := fun d os => cell_regrown e1 d os
      have q_e2 := fun d os => cell_regrown e2 d os
      have q_e3 := fun d os => cell_regrown e3 d os
      have q_e4 := fun d os => cell_regrown e4 d os
      have q_e5 := fun d os => cell_regrown e5 d os
      have q_e6 := fun d os => cell_regrown e6 d os
      have q_e7 := fun d os => cell_regrown e7 d os
      have q_e8 := fun d os => cell_regrown e8 d os
      refine wp_region_quiet_below (by kernel_rfl) (by kernel_rfl) ?_
      repeat (first | go_big_quiet_step ((first | (go_at_call 26; exact Calls.regrown_of (specShowEntry_any x _)) | (go_at_call 23; exact Calls.regrown_of (HF.out _)))) | quiet_step ((first | (go_at_call 26; exact Calls.regrown_of (specShowEntry_any x _)) | (go_at_call 23; exact Calls.regrown_of (HF.out _)))))
      refine wpQuiet_nil ?_
      intro _ hw'
      obtain ⟨⟨dq, osq⟩, hw''⟩ := hw'
      subst hw''
      clear q_e0 q_e1 q_e2 q_e3 q_e4 q_e5 q_e6 q_e7 q_e8
      obtain ⟨wq, hwq⟩ : ∃ wq, wq = Go.Sort.grow (redrawn w2 dq) osq := ⟨_, rfl⟩
      have hbwq : Below w2.heap.size w2 wq := hwq ▸ below_regrown _ dq osq
      rw [← hwq]
      clear hwq
      have HB := hideP (HB.out.trans (hbwq.mono HB.out.size))
      clear hbwq
      go_wp2
      go_ret2
      exact ⟨by rw [HN.out, ← HA.out]; rfl, HB.out⟩
    · have HN := hideP (addRes_no (s := s) (x := x) (.inr (by omega)))
      have d1 : ((jEs (bl s)).length : Int) ≥ 200 := by omega
      clear tok hl
      go_wp2
      go_ret2
      exact ⟨by rw [HN.out]; rfl, HB.out⟩

end Go.Proofs.YtamfgkicmikmbaaDoor
