/- Entries: the nine numbers; EntryOk of both sides. -/
import Derived.Test.YtamfgkicmikmbaaDoorSmall
namespace Go.Proofs.YtamfgkicmikmbaaDoor
open Go.RowKit

structure Entry where
  k : Int
  p : Int
  t : Int
  ck : Int
  ca : Int
  cb : Int
  cc : Int
  cd : Int
  ce : Int
def Entry.nums (x : Entry) : List Int := [x.k, x.p, x.t, x.ck, x.ca, x.cb, x.cc, x.cd, x.ce]
def Entry.cells (x : Entry) : Array Value := #[.int .i64 x.k, .int .i64 x.p, .int .i64 x.t, .int .i64 x.ck, .int .i64 x.ca, .int .i64 x.cb, .int .i64 x.cc, .int .i64 x.cd, .int .i64 x.ce]
def fieldOk (n : Int) : Bool := inB n (-999999999) 999999999
def entryOk (x : Entry) : Bool := x.nums.all fieldOk
instance : Inhabited Entry := ⟨⟨0, 0, 0, 0, 0, 0, 0, 0, 0⟩⟩

set_option maxHeartbeats 400000 in
theorem numbersOf_any (x : Entry) (w : World) :
    Calls Tryd.prog 45 #[.agg x.cells] w fun e w' => ∃ b, e = .returned (.slice (some ⟨b, 0, none⟩) 9 9) ∧ w'.ownsRow w.heap.size 3 1 (.slice (some ⟨b, 0, none⟩) 9 9) 9 (x.nums.map (Value.int .i64)) ∧ Below w.heap.size w w' := by
  unfold Entry.cells
  go_enter Tryd.func45, Tryd.ntmps45
  go_wp2
  go_ret
  refine ⟨_, rfl, owns_lit (by simp; try omega) (by simp) (by decide) rfl rfl, below_a3 _ _ _ _⟩

set_option maxHeartbeats 400000 in
theorem l24Fields_any (x : Entry) (w : World) :
    Calls Tryd.prog 43 #[.agg x.cells] w fun e w' => ∃ b, e = .returned (.slice (some ⟨b, 0, none⟩) 9 9) ∧ w'.ownsRow w.heap.size 3 1 (.slice (some ⟨b, 0, none⟩) 9 9) 9 (x.nums.map (Value.int .i64)) ∧ Below w.heap.size w w' := by
  unfold Entry.cells
  go_enter Tryd.func43, Tryd.ntmps43
  go_wp2
  go_ret
  refine ⟨_, rfl, owns_lit (by simp; try omega) (by simp) (by decide) rfl rfl, below_a2 _ _ _⟩

theorem Rd.num {w : World} {b : Nat} {l : List Int} (h : Rd w (some ⟨b, 0, none⟩) (l.map (Value.int .i64))) {k : Nat} {x : Int} (hx : l[k]? = some x) :
    w.cell? ⟨b, k, none⟩ = some (.int .i64 x) := by
  rcases h with h | ⟨b', o, ha, hlt, hc⟩
  · simp at h
    subst h
    simp at hx
  · simp at ha
    obtain ⟨rfl, rfl⟩ := ha
    have := hc k (.int .i64 x) (by rw [List.getElem?_map, hx]; rfl)
    rwa [Nat.zero_add] at this

set_option maxHeartbeats 400000 in
theorem implEntryOk_any (x : Entry) (w : World) :
    Calls Tryd.prog 28 #[.agg x.cells] w fun e w' => e = .returned (.bool (entryOk x)) ∧ Below w.heap.size w w' := by
  go_enter Tryd.func28, Tryd.ntmps28
  unfold Entry.cells
  go_wp2_with fail
  refine (numbersOf_any x _).mono ?_
  rintro e w1 ⟨b, rfl, ho, hb1⟩
  have Hr := hideP (rd_of_owns ho)
  have hb1' := (below_a1 w (.cells x.cells 25)).trans (hb1.mono (by simp))
  clear ho hb1
  go_wp2
  go_loopw [2, 8] (fun r i wr => ∃ k : Nat, k ≤ 9 ∧ i = .int .i64 k ∧ r = .bool false ∧ Hid (x.nums.all fieldOk = (x.nums.drop k).all fieldOk) ∧ w1 = wr) (fun _ i _ => 9 - (intOf i).toNat)
  case atStart => exact ⟨0, by omega, rfl, rfl, rfl, rfl⟩
  case round =>
    obtain ⟨k, hk, rfl, rfl, hall, rfl⟩ := hrel
    by_cases hlt : k < 9
    · obtain ⟨n, hn⟩ := some_at (l := x.nums) (k := k) hlt
      have g1 := Hr.out.num hn
      have Hn := Lib.hid hn
      clear hn
      cases hok : fieldOk n
      · have Hok := Lib.hid hok
        have t1 : inB n (-999999999) 999999999 = false := hok
        clear hok
        go_wp2_with (go_at_call 36; refine (within_any _ _ _ _).mono ?_; rintro e w' ⟨rfl, rfl⟩)
        go_ret
        exact ⟨ret_bool (by rw [entryOk, all_bad hall.out Hn.out Hok.out]), hb1'⟩
      · have Hok := Lib.hid hok
        have t1 : inB n (-999999999) 999999999 = true := hok
        clear hok
        go_wp2_with (go_at_call 36; refine (within_any _ _ _ _).mono ?_; rintro e w' ⟨rfl, rfl⟩)
        go_roundw
        case rel => exact ⟨k + 1, by omega, by go_num, rfl, all_good hall.out Hn.out Hok.out, by first | rfl | trivial⟩
        case measure => simp [intOf]; omega
    · go_wp2
      go_ret
      refine ⟨ret_bool ?_, hb1'⟩
      rw [entryOk, hall.out, List.drop_eq_nil_of_le (by show 9 ≤ k; omega)]
      rfl

set_option maxHeartbeats 400000 in
theorem specEntryOk_any (x : Entry) (w : World) :
    Calls Tryd.prog 25 #[.agg x.cells] w fun e w' => e = .returned (.bool (entryOk x)) ∧ Below w.heap.size w w' := by
  go_enter Tryd.func25, Tryd.ntmps25
  unfold Entry.cells
  go_wp2_with fail
  refine (l24Fields_any x _).mono ?_
  rintro e w1 ⟨b, rfl, ho, hb1⟩
  have Hr := hideP (rd_of_owns ho)
  have hb1' := (below_a1 w (.cells x.cells 25)).trans (hb1.mono (by simp))
  clear ho hb1
  go_wp2
  go_loopw [2, 4] (fun r i wr => ∃ k : Nat, k ≤ 9 ∧ i = .int .i64 k ∧ r = .bool false ∧ Hid (x.nums.all fieldOk = (x.nums.drop k).all fieldOk) ∧ w1 = wr) (fun _ i _ => 9 - (intOf i).toNat)
  case atStart => exact ⟨0, by omega, rfl, rfl, rfl, rfl⟩
  case round =>
    obtain ⟨k, hk, rfl, rfl, hall, rfl⟩ := hrel
    by_cases hlt : k < 9
    · obtain ⟨n, hn⟩ := some_at (l := x.nums) (k := k) hlt
      have g1 := Hr.out.num hn
      have Hn := Lib.hid hn
      clear hn
      cases hok : fieldOk n
      · have Hok := Lib.hid hok
        have t1 : inB n (-999999999) 999999999 = false := hok
        clear hok
        go_wp2_with (go_at_call 44; refine (l1In_any _ _ _ _).mono ?_; rintro e w' ⟨rfl, rfl⟩)
        go_ret
        exact ⟨ret_bool (by rw [entryOk, all_bad hall.out Hn.out Hok.out]), hb1'⟩
      · have Hok := Lib.hid hok
        have t1 : inB n (-999999999) 999999999 = true := hok
        clear hok
        go_wp2_with (go_at_call 44; refine (l1In_any _ _ _ _).mono ?_; rintro e w' ⟨rfl, rfl⟩)
        go_roundw
        case rel => exact ⟨k + 1, by omega, by go_num, rfl, all_good hall.out Hn.out Hok.out, by first | rfl | trivial⟩
        case measure => simp [intOf]; omega
    · go_wp2
      go_ret
      refine ⟨ret_bool ?_, hb1'⟩
      rw [entryOk, hall.out, List.drop_eq_nil_of_le (by show 9 ≤ k; omega)]
      rfl

def callCells (a b c d e f : Int) : Array Value := #[.int .i64 a, .int .i64 b, .int .i64 c, .int .i64 d, .int .i64 e, .int .i64 f]

set_option maxHeartbeats 400000 in
theorem toCall_any (a b c d e' f : Int) (w : World) :
    Calls Tryd.prog 27 #[.agg #[.int .i64 a, .int .i64 b, .int .i64 c, .int .i64 d, .int .i64 e', .int .i64 f]] w fun e w' => e = .returned (.agg #[.int .i64 a, .int .i64 b, .int .i64 c, .int .i64 d, .int .i64 e', .int .i64 f]) ∧ Below w.heap.size w w' := by
  go_enter Tryd.func27, Tryd.ntmps27
  go_wp2
  refine bodyPost_ret (v := .agg #[.int .i64 a, .int .i64 b, .int .i64 c, .int .i64 d, .int .i64 e', .int .i64 f]) (by simp [results, Tryd.results27, go_sem]) rfl ⟨rfl, ?_⟩
  exact below_a3 _ _ _ _

set_option maxHeartbeats 400000 in
theorem toEntry_any (x : Entry) (w : World) :
    Calls Tryd.prog 15 #[.agg x.cells] w fun e w' => e = .returned (.agg x.cells) ∧ Below w.heap.size w w' := by
  unfold Entry.cells
  go_enter Tryd.func15, Tryd.ntmps15
  go_wp2_with fail
  refine (toCall_any _ _ _ _ _ _ _).mono ?_
  rintro e w1 ⟨rfl, hb1⟩
  obtain ⟨bc1, bf1⟩ := bcell hb1
  have z1 := hb1.size
  have h01 := (below_a3 _ _ _ _).trans (hb1.mono (by simp; omega))
  go_wp2
  refine bodyPost_ret (v := .agg x.cells) (by simp [Entry.cells, results, Tryd.results15, go_sem, bc1]) rfl ⟨rfl, ?_⟩
  repeat (refine Below.setCell ?_ (by first | omega | (simp; done) | (simp; omega)) _)
  exact h01

end Go.Proofs.YtamfgkicmikmbaaDoor
