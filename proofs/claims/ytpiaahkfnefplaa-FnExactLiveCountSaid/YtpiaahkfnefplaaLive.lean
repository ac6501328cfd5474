/- LiveCount of both sides. -/
import Derived.Test.YtpiaahkfnefplaaPartPure
import Derived.Deep.LoopGhost
namespace Go.Proofs.Ytpiaahkfnefplaa
open Go.RowKit

def isLive (o : Thing) : Bool := !(o.kind == 0)
def liveN (l : List Thing) : Nat := l.countP isLive
def liveCount (l : List PartD) (p : Int) : Int := if inB p 0 ((l.length : Int) - 1) = true then (liveN ((l.getD p.toNat default).arena) : Int) else 0
theorem liveN_take {l : List Thing} {k : Nat} {x : Thing} (hx : l[k]? = some x) : liveN (l.take (k + 1)) = liveN (l.take k) + (if isLive x = true then 1 else 0) := by
  unfold liveN
  rw [take_snoc hx, List.countP_append]
  simp [List.countP_cons]
theorem liveN_le (l : List Thing) : liveN l ≤ l.length := List.countP_le_length
set_option maxRecDepth 100000 in
set_option maxHeartbeats 8000000 in
theorem hasPart_any (nw : Int) (l : List PartD) (a : Option Addr) (c : Nat) (hl : l.length ≤ 1048576) (p : Int) (w : World) :
    Calls Try.prog 19 #[.agg #[.int .i64 nw, .slice a l.length c], .int .i64 p] w fun e w' => e = .returned (.bool (inB p 0 ((l.length : Int) - 1))) ∧ Below w.heap.size w w' := by
  have HB := hideP (below_a1 w (.cells #[.int .i64 nw, .slice a l.length c] 29))
  go_enter Try.func19, Try.ntmps19
  go_wp2_with fail
  refine (within_any _ _ _ _).mono ?_
  rintro e w1 ⟨rfl, rfl⟩
  go_wp2
  go_ret
  exact ⟨rfl, HB.out⟩
set_option maxRecDepth 100000 in
set_option maxHeartbeats 8000000 in
theorem implLiveCount_any (nw : Int) (l : List PartD) (a : Option Addr) (c : Nat) (hl : l.length ≤ 1048576) (hs : ∀ x ∈ l, PShort 1048576 x) (p : Int) (w : World) (h : PartsRd w a l) :
    Calls Try.prog 8 #[.agg #[.int .i64 nw, .slice a l.length c], .int .i64 p] w fun e w' => e = .returned (.int .i64 (liveCount l p)) ∧ Below w.heap.size w w' := by
  have HB := hideP (below_a1 w (.cells #[.int .i64 nw, .slice a l.length c] 29))
  have B0 := hideP (Blk.new w #[.int .i64 nw, .slice a l.length c] 29)
  have HP := hideP h
  clear h
  go_enter Try.func8, Try.ntmps8
  go_wp2_with fail
  refine (hasPart_any nw l a c hl p _).mono ?_
  rintro e w1 ⟨rfl, hb1⟩
  have HB1 := hideP (HB.out.trans (hb1.mono HB.out.size))
  have B0 := hideP (B0.out.below hb1)
  clear hb1
  cases tin : inB p 0 ((l.length : Int) - 1)
  · have HN : Hid (liveCount l p = 0) := hideP (by unfold liveCount; rw [tin]; rfl)
    clear tin
    go_wp2
    go_ret
    exact ⟨ret_int HN.out.symm, HB1.out⟩
  · have hin := inB_true.1 tin
    obtain ⟨n, rfl⟩ := Int.eq_ofNat_of_zero_le hin.1
    obtain ⟨y, hy⟩ := some_at (l := l) (k := n) (by omega)
    have HN : Hid (liveCount l (n : Int) = (liveN y.arena : Int)) := hideP (by
      unfold liveCount
      rw [tin, if_pos rfl, Int.toNat_natCast, List.getD_eq_getElem?_getD, hy]
      rfl)
    have hm := hs y (List.mem_of_getElem? hy)
    obtain ⟨b, o, vl, vo, vt, va, vg, vp, rfl, hbw, hth, hz⟩ := HP.out.below HB1.out n y hy
    obtain ⟨aa, ca, rfl, hta⟩ := hth.a
    have s3 : w1.cell? ⟨b, o + n * 16 + 3, none⟩ = some (.slice aa y.arena.length ca) := hz 3 _ rfl
    have x1 : w1.cell? ⟨w.heap.size, 1, none⟩ = some (.slice (some ⟨b, o, none⟩) l.length c) := (B0.out.cell 1).trans rfl
    have n0 : (0 : Int) ≤ (n : Int) := by omega
    have n1 : (n : Int) < (l.length : Int) := by omega
    have hal := hm.a
    have HTA := hideP hta
    clear hth hz tin hin hy hta B0
    go_wp2
    go_loopg [5, 21] (y.arena.length + 1) (fun gk nv iv wr => ∃ (k : Nat), y.arena.length < gk + k ∧ k ≤ y.arena.length ∧ iv = .int .i64 (k : Int) ∧ nv = .int .i64 (liveN (y.arena.take k) : Int) ∧ Hid (Below w1.heap.size w1 wr))
    case atStart => exact ⟨0, by omega, by omega, rfl, rfl, hideP (Below.refl _ _)⟩
    case round =>
      clear s3 x1
      obtain ⟨k, hgk, hk, rfl, rfl, HL⟩ := hrel
      have hcn := liveN_le (y.arena.take k)
      rw [List.length_take] at hcn
      by_cases hlt : k < y.arena.length
      · obtain ⟨x, hx⟩ := some_at (l := y.arena) (k := k) hlt
        obtain ⟨b9, o9, vl, vd, vq, rfl, hbw9, hth, hz9⟩ := HTA.out.below HL.out k x hx
        obtain ⟨⟨pl, ql, rfl, _, _⟩, ⟨pd, qd, rfl, _, _⟩, ⟨pq, qq, rfl, _, _⟩⟩ := hth
        have g0 : World.cell? _ ⟨b9, o9 + k * 13, none⟩ = some (.int .i64 x.gen) := hz9 0 _ rfl
        have g1 : World.cell? _ ⟨b9, o9 + k * 13 + 1, none⟩ = some (.int .i64 x.kind) := hz9 1 _ rfl
        have g2 : World.cell? _ ⟨b9, o9 + k * 13 + 2, none⟩ = some (.int .i64 x.box) := hz9 2 _ rfl
        have g3 : World.cell? _ ⟨b9, o9 + k * 13 + 3, none⟩ = some (.int .i64 x.res) := hz9 3 _ rfl
        have g4 : World.cell? _ ⟨b9, o9 + k * 13 + 4, none⟩ = some (.int .i64 x.til) := hz9 4 _ rfl
        have g5 : World.cell? _ ⟨b9, o9 + k * 13 + 5, none⟩ = some (.int .i64 x.pages) := hz9 5 _ rfl
        have g6 : World.cell? _ ⟨b9, o9 + k * 13 + 6, none⟩ = some (.int .i64 x.wait) := hz9 6 _ rfl
        have g7 : World.cell? _ ⟨b9, o9 + k * 13 + 7, none⟩ = some (.int .i64 x.got) := hz9 7 _ rfl
        have g8 : World.cell? _ ⟨b9, o9 + k * 13 + 8, none⟩ = some (.int .i64 x.ran) := hz9 8 _ rfl
        have g9 : World.cell? _ ⟨b9, o9 + k * 13 + 9, none⟩ = some (.bool x.mark) := hz9 9 _ rfl
        have g10 : World.cell? _ ⟨b9, o9 + k * 13 + 10, none⟩ = some (.slice pl x.links.length ql) := hz9 10 _ rfl
        have g11 : World.cell? _ ⟨b9, o9 + k * 13 + 11, none⟩ = some (.slice pd x.data.length qd) := hz9 11 _ rfl
        have g12 : World.cell? _ ⟨b9, o9 + k * 13 + 12, none⟩ = some (.slice pq x.queue.length qq) := hz9 12 _ rfl
        have HT := hideP (liveN_take hx)
        have k1 : (k : Int) < (y.arena.length : Int) := by omega
        have k0 : (0 : Int) ≤ (k : Int) := by omega
        have HL2 := hideP (HL.out.alloc HL.out.size (.cells #[.int .i64 x.gen, .int .i64 x.kind, .int .i64 x.box, .int .i64 x.res, .int .i64 x.til, .int .i64 x.pages, .int .i64 x.wait, .int .i64 x.got, .int .i64 x.ran, .bool x.mark, .slice pl x.links.length ql, .slice pd x.data.length qd, .slice pq x.queue.length qq] 55))
        clear hx hz9
        cases hk9 : (x.kind == 0)
        · have HT2 : Hid (liveN (y.arena.take (k + 1)) = liveN (y.arena.take k) + 1) := hideP (by rw [HT.out]; unfold isLive; rw [hk9]; rfl)
          clear HT
          go_wp2
          go_roundg (gk - 1)
          case measure => omega
          case rel => exact ⟨k + 1, by omega, by omega, by go_num, by rw [HT2.out]; go_num, HL2⟩
        · have HT2 : Hid (liveN (y.arena.take (k + 1)) = liveN (y.arena.take k)) := hideP (by rw [HT.out]; unfold isLive; rw [hk9]; rfl)
          clear HT
          go_wp2
          go_roundg (gk - 1)
          case measure => omega
          case rel => exact ⟨k + 1, by omega, by omega, by go_num, by rw [HT2.out], HL2⟩
      · have k1 : ¬ (k : Int) < (y.arena.length : Int) := by omega
        have HF : Hid (liveN (y.arena.take k) = liveN y.arena) := hideP (by rw [List.take_of_length_le (by omega)])
        go_wp2
        go_ret
        exact ⟨ret_int (by rw [HN.out, HF.out]), HB1.out.trans (HL.out.mono HB1.out.size)⟩
set_option maxRecDepth 100000 in
set_option maxHeartbeats 8000000 in
theorem specLiveCount_any (nw : Int) (l : List PartD) (a : Option Addr) (c : Nat) (hl : l.length ≤ 1048576) (hs : ∀ x ∈ l, PShort 1048576 x) (p : Int) (w : World) (h : PartsRd w a l) :
    Calls Try.prog 6 #[.agg #[.int .i64 nw, .slice a l.length c], .int .i64 p] w fun e w' => e = .returned (.int .i64 (liveCount l p)) ∧ Below w.heap.size w w' := by
  have HB := hideP (below_a1 w (.cells #[.int .i64 nw, .slice a l.length c] 29))
  have B0 := hideP (Blk.new w #[.int .i64 nw, .slice a l.length c] 29)
  have HP := hideP h
  clear h
  go_enter Try.func6, Try.ntmps6
  go_wp2_with fail
  refine (l1In_any _ _ _ _).mono ?_
  rintro e w1 ⟨rfl, rfl⟩
  cases tin : inB p 0 ((l.length : Int) - 1)
  · have HN : Hid (liveCount l p = 0) := hideP (by unfold liveCount; rw [tin]; rfl)
    clear tin
    go_wp2
    go_ret
    exact ⟨ret_int HN.out.symm, HB.out⟩
  · have hin := inB_true.1 tin
    obtain ⟨n, rfl⟩ := Int.eq_ofNat_of_zero_le hin.1
    obtain ⟨y, hy⟩ := some_at (l := l) (k := n) (by omega)
    have HN : Hid (liveCount l (n : Int) = (liveN y.arena : Int)) := hideP (by
      unfold liveCount
      rw [tin, if_pos rfl, Int.toNat_natCast, List.getD_eq_getElem?_getD, hy]
      rfl)
    have hm := hs y (List.mem_of_getElem? hy)
    obtain ⟨w1, hw1⟩ : ∃ w1, w1 = w.alloc (.cells #[.int .i64 nw, .slice a l.length c] 29) := ⟨_, rfl⟩
    rw [← hw1] at HB B0 ⊢
    clear hw1
    obtain ⟨b, o, vl, vo, vt, va, vg, vp, rfl, hbw, hth, hz⟩ := HP.out.below HB.out n y hy
    obtain ⟨aa, ca, rfl, hta⟩ := hth.a
    have s3 : w1.cell? ⟨b, o + n * 16 + 3, none⟩ = some (.slice aa y.arena.length ca) := hz 3 _ rfl
    have x1 : w1.cell? ⟨w.heap.size, 1, none⟩ = some (.slice (some ⟨b, o, none⟩) l.length c) := (B0.out.cell 1).trans rfl
    have n0 : (0 : Int) ≤ (n : Int) := by omega
    have n1 : (n : Int) < (l.length : Int) := by omega
    have hal := hm.a
    have HTA := hideP hta
    clear hth hz tin hin hy hta B0
    go_wp2
    go_loopg [5, 6] (y.arena.length + 1) (fun gk nv iv wr => ∃ (k : Nat), y.arena.length < gk + k ∧ k ≤ y.arena.length ∧ iv = .int .i64 (k : Int) ∧ nv = .int .i64 (liveN (y.arena.take k) : Int) ∧ w1 = wr)
    case atStart => exact ⟨0, by omega, by omega, rfl, rfl, rfl⟩
    case round =>
      obtain ⟨k, hgk, hk, rfl, rfl, rfl⟩ := hrel
      have hcn := liveN_le (y.arena.take k)
      rw [List.length_take] at hcn
      by_cases hlt : k < y.arena.length
      · obtain ⟨x, hx⟩ := some_at (l := y.arena) (k := k) hlt
        obtain ⟨b9, o9, vl, vd, vq, rfl, hbw9, hth, hz9⟩ := HTA.out k x hx
        have g1 : w1.cell? ⟨b9, o9 + k * 13 + 1, none⟩ = some (.int .i64 x.kind) := hz9 1 _ rfl
        have HT := hideP (liveN_take hx)
        have k1 : (k : Int) < (y.arena.length : Int) := by omega
        have k0 : (0 : Int) ≤ (k : Int) := by omega
        clear hx hz9 hth
        cases hk9 : (x.kind == 0)
        · have HT2 : Hid (liveN (y.arena.take (k + 1)) = liveN (y.arena.take k) + 1) := hideP (by rw [HT.out]; unfold isLive; rw [hk9]; rfl)
          clear HT
          go_wp2
          go_roundg (gk - 1)
          case measure => omega
          case rel => exact ⟨k + 1, by omega, by omega, by go_num, by rw [HT2.out]; go_num, rfl⟩
        · have HT2 : Hid (liveN (y.arena.take (k + 1)) = liveN (y.arena.take k)) := hideP (by rw [HT.out]; unfold isLive; rw [hk9]; rfl)
          clear HT
          go_wp2
          go_roundg (gk - 1)
          case measure => omega
          case rel => exact ⟨k + 1, by omega, by omega, by go_num, by rw [HT2.out], rfl⟩
      · have k1 : ¬ (k : Int) < (y.arena.length : Int) := by omega
        have HF : Hid (liveN (y.arena.take k) = liveN y.arena) := hideP (by rw [List.take_of_length_le (by omega)])
        go_wp2
        go_ret
        exact ⟨ret_int (by rw [HN.out, HF.out]), HB.out⟩

end Go.Proofs.Ytpiaahkfnefplaa
