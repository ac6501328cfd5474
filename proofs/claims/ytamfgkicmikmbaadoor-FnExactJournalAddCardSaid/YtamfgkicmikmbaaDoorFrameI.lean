/- The program's frame. -/
import Derived.Test.YtamfgkicmikmbaaDoorFixed
import Derived.Test.YtamfgkicmikmbaaDoorCrc
import Derived.Test.YtamfgkicmikmbaaDoorReadVarI
import Derived.Test.YtamfgkicmikmbaaDoorReadEntryI
import Derived.Test.YtamfgkicmikmbaaDoorBlk
import Derived.Deep.LoopGhost
namespace Go.Proofs.YtamfgkicmikmbaaDoor
open Go.RowKit

theorem readVar_bound (l : List UInt8) : (readVar l).1 ≤ 562949953421311 ∧ (readVar l).2 ≤ 7 ∧ (readVar l).2 ≤ l.length := by
  by_cases hk : (readVar l).2 = 0
  · unfold readVar at hk ⊢
    cases hr : rvGo 7 true l with
    | none => simp
    | some p =>
      rw [hr] at hk
      obtain ⟨n, k⟩ := p
      have := (rvGo_some hr).2.2.1
      simp at hk
      omega
  · obtain ⟨_, h2, h3, h4⟩ := readVar_var (l := l) (n := (readVar l).1) (k := (readVar l).2) rfl hk
    exact ⟨h4, h2, h3⟩
def frameRes (l : List UInt8) : Value := match frame l with
  | none => .tuple #[.agg #[.int .i64 0, .int .i64 0, .int .i64 0, .int .i64 0, .int .i64 0, .int .i64 0, .int .i64 0, .int .i64 0, .int .i64 0], .int .i64 0]
  | some (e, n) => .tuple #[.agg e.cells, .int .i64 (n : Int)]
theorem frameRes_none {l : List UInt8} (h : frame l = none) : frameRes l = .tuple #[.agg #[.int .i64 0, .int .i64 0, .int .i64 0, .int .i64 0, .int .i64 0, .int .i64 0, .int .i64 0, .int .i64 0, .int .i64 0], .int .i64 0] := by unfold frameRes; rw [h]
theorem frameRes_some {l : List UInt8} {e : Entry} {n : Nat} (h : frame l = some (e, n)) : frameRes l = .tuple #[.agg e.cells, .int .i64 (n : Int)] := by unfold frameRes; rw [h]
theorem frame_short {l : List UInt8} (h : l.length < 4) : frame l = none := by unfold frame; rw [if_pos h]
theorem frame_no {l : List UInt8} {n k : Nat} (hr : readVar (l.drop 4) = (n, k)) (h : k = 0 ∨ l.length - 4 < k + n ∨ crc ((l.drop 4).take (k + n)) ≠ fixN l) : frame l = none := by
  unfold frame
  split
  · rfl
  · dsimp only
    rw [hr, if_pos h]
theorem frame_rest {l : List UInt8} {n k : Nat} (h4 : 4 ≤ l.length) (hr : readVar (l.drop 4) = (n, k)) (hk : k ≠ 0) (hn : k + n ≤ l.length - 4) (hc : crc ((l.drop 4).take (k + n)) = fixN l) : frame l = (readEntry (((l.drop 4).drop k).take n)).map fun e => (e, 4 + k + n) := by
  unfold frame
  rw [if_neg (by omega)]
  dsimp only
  rw [hr, if_neg (by rintro (h | h | h) <;> first | omega | exact h hc)]
set_option maxRecDepth 100000 in
set_option maxHeartbeats 4000000 in
theorem implReadFrame_any (s : ByteArray) (hs : s.size ≤ 1048576) (w : World) (hd : Doors w) (m : Int) (hm : w.cell? ⟨0, 0, none⟩ = some (.int .i64 m)) :
    Calls Tryd.prog 24 #[.string s] w fun e w' => e = .returned (frameRes (bl s)) ∧ Below w.heap.size w w' := by
  have HD := hideP hd
  have HM := hideP hm
  have hw0 : 0 < w.heap.size := World.block_lt_of_cell? _ _ hm
  have hsl := bl_length s
  clear hd hm
  go_enter Tryd.func24, Tryd.ntmps24
  have BZ := hideP (Blk.new w #[.int .i64 0, .int .i64 0, .int .i64 0, .int .i64 0, .int .i64 0, .int .i64 0, .int .i64 0, .int .i64 0, .int .i64 0] 25)
  have HB := hideP (below_a1 w (.cells #[.int .i64 0, .int .i64 0, .int .i64 0, .int .i64 0, .int .i64 0, .int .i64 0, .int .i64 0, .int .i64 0, .int .i64 0] 25))
  go_wp2_with fail
  refine (implReadFixed_any s _).mono ?_
  rintro e w1 ⟨rfl, rfl⟩
  by_cases h4 : s.size < 4
  · rw [show fixRes s = .tuple #[.int .i64 0, .bool false] from by unfold fixRes; rw [if_pos h4]]
    have h4' : (bl s).length < 4 := by omega
    clear h4
    have HN := hideP (frameRes_none (l := bl s) (frame_short h4'))
    have z0 : (w.alloc (.cells #[.int .i64 0, .int .i64 0, .int .i64 0, .int .i64 0, .int .i64 0, .int .i64 0, .int .i64 0, .int .i64 0, .int .i64 0] 25)).cell? ⟨w.heap.size, 0, none⟩ = some (.int .i64 0) := (BZ.out.cell 0).trans rfl
    have kz0 : (w.alloc (.cells #[.int .i64 0, .int .i64 0, .int .i64 0, .int .i64 0, .int .i64 0, .int .i64 0, .int .i64 0, .int .i64 0, .int .i64 0] 25)).frozen? ⟨w.heap.size, 0, none⟩ = false := BZ.out.frozen 0
    have z1 : (w.alloc (.cells #[.int .i64 0, .int .i64 0, .int .i64 0, .int .i64 0, .int .i64 0, .int .i64 0, .int .i64 0, .int .i64 0, .int .i64 0] 25)).cell? ⟨w.heap.size, 1, none⟩ = some (.int .i64 0) := (BZ.out.cell 1).trans rfl
    have kz1 : (w.alloc (.cells #[.int .i64 0, .int .i64 0, .int .i64 0, .int .i64 0, .int .i64 0, .int .i64 0, .int .i64 0, .int .i64 0, .int .i64 0] 25)).frozen? ⟨w.heap.size, 1, none⟩ = false := BZ.out.frozen 1
    have z2 : (w.alloc (.cells #[.int .i64 0, .int .i64 0, .int .i64 0, .int .i64 0, .int .i64 0, .int .i64 0, .int .i64 0, .int .i64 0, .int .i64 0] 25)).cell? ⟨w.heap.size, 2, none⟩ = some (.int .i64 0) := (BZ.out.cell 2).trans rfl
    have kz2 : (w.alloc (.cells #[.int .i64 0, .int .i64 0, .int .i64 0, .int .i64 0, .int .i64 0, .int .i64 0, .int .i64 0, .int .i64 0, .int .i64 0] 25)).frozen? ⟨w.heap.size, 2, none⟩ = false := BZ.out.frozen 2
    have z3 : (w.alloc (.cells #[.int .i64 0, .int .i64 0, .int .i64 0, .int .i64 0, .int .i64 0, .int .i64 0, .int .i64 0, .int .i64 0, .int .i64 0] 25)).cell? ⟨w.heap.size, 3, none⟩ = some (.int .i64 0) := (BZ.out.cell 3).trans rfl
    have kz3 : (w.alloc (.cells #[.int .i64 0, .int .i64 0, .int .i64 0, .int .i64 0, .int .i64 0, .int .i64 0, .int .i64 0, .int .i64 0, .int .i64 0] 25)).frozen? ⟨w.heap.size, 3, none⟩ = false := BZ.out.frozen 3
    have z4 : (w.alloc (.cells #[.int .i64 0, .int .i64 0, .int .i64 0, .int .i64 0, .int .i64 0, .int .i64 0, .int .i64 0, .int .i64 0, .int .i64 0] 25)).cell? ⟨w.heap.size, 4, none⟩ = some (.int .i64 0) := (BZ.out.cell 4).trans rfl
    have kz4 : (w.alloc (.cells #[.int .i64 0, .int .i64 0, .int .i64 0, .int .i64 0, .int .i64 0, .int .i64 0, .int .i64 0, .int .i64 0, .int .i64 0] 25)).frozen? ⟨w.heap.size, 4, none⟩ = false := BZ.out.frozen 4
    have z5 : (w.alloc (.cells #[.int .i64 0, .int .i64 0, .int .i64 0, .int .i64 0, .int .i64 0, .int .i64 0, .int .i64 0, .int .i64 0, .int .i64 0] 25)).cell? ⟨w.heap.size, 5, none⟩ = some (.int .i64 0) := (BZ.out.cell 5).trans rfl
    have kz5 : (w.alloc (.cells #[.int .i64 0, .int .i64 0, .int .i64 0, .int .i64 0, .int .i64 0, .int .i64 0, .int .i64 0, .int .i64 0, .int .i64 0] 25)).frozen? ⟨w.heap.size, 5, none⟩ = false := BZ.out.frozen 5
    have z6 : (w.alloc (.cells #[.int .i64 0, .int .i64 0, .int .i64 0, .int .i64 0, .int .i64 0, .int .i64 0, .int .i64 0, .int .i64 0, .int .i64 0] 25)).cell? ⟨w.heap.size, 6, none⟩ = some (.int .i64 0) := (BZ.out.cell 6).trans rfl
    have kz6 : (w.alloc (.cells #[.int .i64 0, .int .i64 0, .int .i64 0, .int .i64 0, .int .i64 0, .int .i64 0, .int .i64 0, .int .i64 0, .int .i64 0] 25)).frozen? ⟨w.heap.size, 6, none⟩ = false := BZ.out.frozen 6
    have z7 : (w.alloc (.cells #[.int .i64 0, .int .i64 0, .int .i64 0, .int .i64 0, .int .i64 0, .int .i64 0, .int .i64 0, .int .i64 0, .int .i64 0] 25)).cell? ⟨w.heap.size, 7, none⟩ = some (.int .i64 0) := (BZ.out.cell 7).trans rfl
    have kz7 : (w.alloc (.cells #[.int .i64 0, .int .i64 0, .int .i64 0, .int .i64 0, .int .i64 0, .int .i64 0, .int .i64 0, .int .i64 0, .int .i64 0] 25)).frozen? ⟨w.heap.size, 7, none⟩ = false := BZ.out.frozen 7
    have z8 : (w.alloc (.cells #[.int .i64 0, .int .i64 0, .int .i64 0, .int .i64 0, .int .i64 0, .int .i64 0, .int .i64 0, .int .i64 0, .int .i64 0] 25)).cell? ⟨w.heap.size, 8, none⟩ = some (.int .i64 0) := (BZ.out.cell 8).trans rfl
    have kz8 : (w.alloc (.cells #[.int .i64 0, .int .i64 0, .int .i64 0, .int .i64 0, .int .i64 0, .int .i64 0, .int .i64 0, .int .i64 0, .int .i64 0] 25)).frozen? ⟨w.heap.size, 8, none⟩ = false := BZ.out.frozen 8
    go_wp2
    refine bodyPost_ret (v := frameRes (bl s)) (by rw [HN.out]; simp [results, Tryd.results24, go_sem, z0, z1, z2, z3, z4, z5, z6, z7, z8]) rfl ⟨rfl, ?_⟩
    repeat (first | (with_reducible exact HB.out) | refine Below.setCell ?_ (by simp) _)
  · rw [show fixRes s = .tuple #[.int .i64 (fixN (bl s) : Int), .bool true] from by unfold fixRes; rw [if_neg h4]]
    have h4' : 4 ≤ s.size := by omega
    have h4i : (4 : Int) ≤ (s.size : Int) := by omega
    clear h4
    obtain ⟨b, hb⟩ : ∃ b, s.extract 4 s.size = b := ⟨_, rfl⟩
    have hbl : bl b = (bl s).drop 4 := by rw [← hb]; exact bl_from s 4
    have hbs : b.size = s.size - 4 := by rw [← bl_length b, hbl, List.length_drop, hsl]
    obtain ⟨n, k, hr⟩ : ∃ n k, readVar ((bl s).drop 4) = (n, k) := ⟨_, _, rfl⟩
    have hbd := readVar_bound ((bl s).drop 4)
    rw [hr] at hbd
    dsimp only at hbd
    obtain ⟨hn9, hk7, hkl⟩ := hbd
    rw [List.length_drop, hsl] at hkl
    have HR := hideP hr
    clear hr
    go_wp2_with fail
    refine (implReadVar_any b (by unfold maxLen; omega) _).mono ?_
    rw [hbl, HR.out]
    rintro e w2 ⟨rfl, rfl⟩
    have HBL := hideP hbl
    clear hbl hb
    by_cases hk0 : k = 0
    · have e0 : ((k : Int) == 0) = true := by simp; omega
      have HN := hideP (frameRes_none (l := bl s) (frame_no HR.out (.inl hk0)))
      have z0 : (w.alloc (.cells #[.int .i64 0, .int .i64 0, .int .i64 0, .int .i64 0, .int .i64 0, .int .i64 0, .int .i64 0, .int .i64 0, .int .i64 0] 25)).cell? ⟨w.heap.size, 0, none⟩ = some (.int .i64 0) := (BZ.out.cell 0).trans rfl
      have kz0 : (w.alloc (.cells #[.int .i64 0, .int .i64 0, .int .i64 0, .int .i64 0, .int .i64 0, .int .i64 0, .int .i64 0, .int .i64 0, .int .i64 0] 25)).frozen? ⟨w.heap.size, 0, none⟩ = false := BZ.out.frozen 0
      have z1 : (w.alloc (.cells #[.int .i64 0, .int .i64 0, .int .i64 0, .int .i64 0, .int .i64 0, .int .i64 0, .int .i64 0, .int .i64 0, .int .i64 0] 25)).cell? ⟨w.heap.size, 1, none⟩ = some (.int .i64 0) := (BZ.out.cell 1).trans rfl
      have kz1 : (w.alloc (.cells #[.int .i64 0, .int .i64 0, .int .i64 0, .int .i64 0, .int .i64 0, .int .i64 0, .int .i64 0, .int .i64 0, .int .i64 0] 25)).frozen? ⟨w.heap.size, 1, none⟩ = false := BZ.out.frozen 1
      have z2 : (w.alloc (.cells #[.int .i64 0, .int .i64 0, .int .i64 0, .int .i64 0, .int .i64 0, .int .i64 0, .int .i64 0, .int .i64 0, .int .i64 0] 25)).cell? ⟨w.heap.size, 2, none⟩ = some (.int .i64 0) := (BZ.out.cell 2).trans rfl
      have kz2 : (w.alloc (.cells #[.int .i64 0, .int .i64 0, .int .i64 0, .int .i64 0, .int .i64 0, .int .i64 0, .int .i64 0, .int .i64 0, .int .i64 0] 25)).frozen? ⟨w.heap.size, 2, none⟩ = false := BZ.out.frozen 2
      have z3 : (w.alloc (.cells #[.int .i64 0, .int .i64 0, .int .i64 0, .int .i64 0, .int .i64 0, .int .i64 0, .int .i64 0, .int .i64 0, .int .i64 0] 25)).cell? ⟨w.heap.size, 3, none⟩ = some (.int .i64 0) := (BZ.out.cell 3).trans rfl
      have kz3 : (w.alloc (.cells #[.int .i64 0, .int .i64 0, .int .i64 0, .int .i64 0, .int .i64 0, .int .i64 0, .int .i64 0, .int .i64 0, .int .i64 0] 25)).frozen? ⟨w.heap.size, 3, none⟩ = false := BZ.out.frozen 3
      have z4 : (w.alloc (.cells #[.int .i64 0, .int .i64 0, .int .i64 0, .int .i64 0, .int .i64 0, .int .i64 0, .int .i64 0, .int .i64 0, .int .i64 0] 25)).cell? ⟨w.heap.size, 4, none⟩ = some (.int .i64 0) := (BZ.out.cell 4).trans rfl
      have kz4 : (w.alloc (.cells #[.int .i64 0, .int .i64 0, .int .i64 0, .int .i64 0, .int .i64 0, .int .i64 0, .int .i64 0, .int .i64 0, .int .i64 0] 25)).frozen? ⟨w.heap.size, 4, none⟩ = false := BZ.out.frozen 4
      have z5 : (w.alloc (.cells #[.int .i64 0, .int .i64 0, .int .i64 0, .int .i64 0, .int .i64 0, .int .i64 0, .int .i64 0, .int .i64 0, .int .i64 0] 25)).cell? ⟨w.heap.size, 5, none⟩ = some (.int .i64 0) := (BZ.out.cell 5).trans rfl
      have kz5 : (w.alloc (.cells #[.int .i64 0, .int .i64 0, .int .i64 0, .int .i64 0, .int .i64 0, .int .i64 0, .int .i64 0, .int .i64 0, .int .i64 0] 25)).frozen? ⟨w.heap.size, 5, none⟩ = false := BZ.out.frozen 5
      have z6 : (w.alloc (.cells #[.int .i64 0, .int .i64 0, .int .i64 0, .int .i64 0, .int .i64 0, .int .i64 0, .int .i64 0, .int .i64 0, .int .i64 0] 25)).cell? ⟨w.heap.size, 6, none⟩ = some (.int .i64 0) := (BZ.out.cell 6).trans rfl
      have kz6 : (w.alloc (.cells #[.int .i64 0, .int .i64 0, .int .i64 0, .int .i64 0, .int .i64 0, .int .i64 0, .int .i64 0, .int .i64 0, .int .i64 0] 25)).frozen? ⟨w.heap.size, 6, none⟩ = false := BZ.out.frozen 6
      have z7 : (w.alloc (.cells #[.int .i64 0, .int .i64 0, .int .i64 0, .int .i64 0, .int .i64 0, .int .i64 0, .int .i64 0, .int .i64 0, .int .i64 0] 25)).cell? ⟨w.heap.size, 7, none⟩ = some (.int .i64 0) := (BZ.out.cell 7).trans rfl
      have kz7 : (w.alloc (.cells #[.int .i64 0, .int .i64 0, .int .i64 0, .int .i64 0, .int .i64 0, .int .i64 0, .int .i64 0, .int .i64 0, .int .i64 0] 25)).frozen? ⟨w.heap.size, 7, none⟩ = false := BZ.out.frozen 7
      have z8 : (w.alloc (.cells #[.int .i64 0, .int .i64 0, .int .i64 0, .int .i64 0, .int .i64 0, .int .i64 0, .int .i64 0, .int .i64 0, .int .i64 0] 25)).cell? ⟨w.heap.size, 8, none⟩ = some (.int .i64 0) := (BZ.out.cell 8).trans rfl
      have kz8 : (w.alloc (.cells #[.int .i64 0, .int .i64 0, .int .i64 0, .int .i64 0, .int .i64 0, .int .i64 0, .int .i64 0, .int .i64 0, .int .i64 0] 25)).frozen? ⟨w.heap.size, 8, none⟩ = false := BZ.out.frozen 8
      go_wp2
      refine bodyPost_ret (v := frameRes (bl s)) (by rw [HN.out]; simp [results, Tryd.results24, go_sem, z0, z1, z2, z3, z4, z5, z6, z7, z8]) rfl ⟨rfl, ?_⟩
      repeat (first | (with_reducible exact HB.out) | refine Below.setCell ?_ (by simp) _)
    · have e0 : ((k : Int) == 0) = false := by simp; omega
      by_cases hnl : s.size - 4 < k + n
      · have e1 : (n : Int) > (b.size : Int) - (k : Int) := by omega
        have HN := hideP (frameRes_none (l := bl s) (frame_no HR.out (.inr (.inl (by rw [hsl]; exact hnl)))))
        have z0 : (w.alloc (.cells #[.int .i64 0, .int .i64 0, .int .i64 0, .int .i64 0, .int .i64 0, .int .i64 0, .int .i64 0, .int .i64 0, .int .i64 0] 25)).cell? ⟨w.heap.size, 0, none⟩ = some (.int .i64 0) := (BZ.out.cell 0).trans rfl
        have kz0 : (w.alloc (.cells #[.int .i64 0, .int .i64 0, .int .i64 0, .int .i64 0, .int .i64 0, .int .i64 0, .int .i64 0, .int .i64 0, .int .i64 0] 25)).frozen? ⟨w.heap.size, 0, none⟩ = false := BZ.out.frozen 0
        have z1 : (w.alloc (.cells #[.int .i64 0, .int .i64 0, .int .i64 0, .int .i64 0, .int .i64 0, .int .i64 0, .int .i64 0, .int .i64 0, .int .i64 0] 25)).cell? ⟨w.heap.size, 1, none⟩ = some (.int .i64 0) := (BZ.out.cell 1).trans rfl
        have kz1 : (w.alloc (.cells #[.int .i64 0, .int .i64 0, .int .i64 0, .int .i64 0, .int .i64 0, .int .i64 0, .int .i64 0, .int .i64 0, .int .i64 0] 25)).frozen? ⟨w.heap.size, 1, none⟩ = false := BZ.out.frozen 1
        have z2 : (w.alloc (.cells #[.int .i64 0, .int .i64 0, .int .i64 0, .int .i64 0, .int .i64 0, .int .i64 0, .int .i64 0, .int .i64 0, .int .i64 0] 25)).cell? ⟨w.heap.size, 2, none⟩ = some (.int .i64 0) := (BZ.out.cell 2).trans rfl
        have kz2 : (w.alloc (.cells #[.int .i64 0, .int .i64 0, .int .i64 0, .int .i64 0, .int .i64 0, .int .i64 0, .int .i64 0, .int .i64 0, .int .i64 0] 25)).frozen? ⟨w.heap.size, 2, none⟩ = false := BZ.out.frozen 2
        have z3 : (w.alloc (.cells #[.int .i64 0, .int .i64 0, .int .i64 0, .int .i64 0, .int .i64 0, .int .i64 0, .int .i64 0, .int .i64 0, .int .i64 0] 25)).cell? ⟨w.heap.size, 3, none⟩ = some (.int .i64 0) := (BZ.out.cell 3).trans rfl
        have kz3 : (w.alloc (.cells #[.int .i64 0, .int .i64 0, .int .i64 0, .int .i64 0, .int .i64 0, .int .i64 0, .int .i64 0, .int .i64 0, .int .i64 0] 25)).frozen? ⟨w.heap.size, 3, none⟩ = false := BZ.out.frozen 3
        have z4 : (w.alloc (.cells #[.int .i64 0, .int .i64 0, .int .i64 0, .int .i64 0, .int .i64 0, .int .i64 0, .int .i64 0, .int .i64 0, .int .i64 0] 25)).cell? ⟨w.heap.size, 4, none⟩ = some (.int .i64 0) := (BZ.out.cell 4).trans rfl
        have kz4 : (w.alloc (.cells #[.int .i64 0, .int .i64 0, .int .i64 0, .int .i64 0, .int .i64 0, .int .i64 0, .int .i64 0, .int .i64 0, .int .i64 0] 25)).frozen? ⟨w.heap.size, 4, none⟩ = false := BZ.out.frozen 4
        have z5 : (w.alloc (.cells #[.int .i64 0, .int .i64 0, .int .i64 0, .int .i64 0, .int .i64 0, .int .i64 0, .int .i64 0, .int .i64 0, .int .i64 0] 25)).cell? ⟨w.heap.size, 5, none⟩ = some (.int .i64 0) := (BZ.out.cell 5).trans rfl
        have kz5 : (w.alloc (.cells #[.int .i64 0, .int .i64 0, .int .i64 0, .int .i64 0, .int .i64 0, .int .i64 0, .int .i64 0, .int .i64 0, .int .i64 0] 25)).frozen? ⟨w.heap.size, 5, none⟩ = false := BZ.out.frozen 5
        have z6 : (w.alloc (.cells #[.int .i64 0, .int .i64 0, .int .i64 0, .int .i64 0, .int .i64 0, .int .i64 0, .int .i64 0, .int .i64 0, .int .i64 0] 25)).cell? ⟨w.heap.size, 6, none⟩ = some (.int .i64 0) := (BZ.out.cell 6).trans rfl
        have kz6 : (w.alloc (.cells #[.int .i64 0, .int .i64 0, .int .i64 0, .int .i64 0, .int .i64 0, .int .i64 0, .int .i64 0, .int .i64 0, .int .i64 0] 25)).frozen? ⟨w.heap.size, 6, none⟩ = false := BZ.out.frozen 6
        have z7 : (w.alloc (.cells #[.int .i64 0, .int .i64 0, .int .i64 0, .int .i64 0, .int .i64 0, .int .i64 0, .int .i64 0, .int .i64 0, .int .i64 0] 25)).cell? ⟨w.heap.size, 7, none⟩ = some (.int .i64 0) := (BZ.out.cell 7).trans rfl
        have kz7 : (w.alloc (.cells #[.int .i64 0, .int .i64 0, .int .i64 0, .int .i64 0, .int .i64 0, .int .i64 0, .int .i64 0, .int .i64 0, .int .i64 0] 25)).frozen? ⟨w.heap.size, 7, none⟩ = false := BZ.out.frozen 7
        have z8 : (w.alloc (.cells #[.int .i64 0, .int .i64 0, .int .i64 0, .int .i64 0, .int .i64 0, .int .i64 0, .int .i64 0, .int .i64 0, .int .i64 0] 25)).cell? ⟨w.heap.size, 8, none⟩ = some (.int .i64 0) := (BZ.out.cell 8).trans rfl
        have kz8 : (w.alloc (.cells #[.int .i64 0, .int .i64 0, .int .i64 0, .int .i64 0, .int .i64 0, .int .i64 0, .int .i64 0, .int .i64 0, .int .i64 0] 25)).frozen? ⟨w.heap.size, 8, none⟩ = false := BZ.out.frozen 8
        go_wp2
        refine bodyPost_ret (v := frameRes (bl s)) (by rw [HN.out]; simp [results, Tryd.results24, go_sem, z0, z1, z2, z3, z4, z5, z6, z7, z8]) rfl ⟨rfl, ?_⟩
        repeat (first | (with_reducible exact HB.out) | refine Below.setCell ?_ (by simp) _)
      · have e1 : ¬ (n : Int) > (b.size : Int) - (k : Int) := by omega
        have e2 : (k : Int) + (n : Int) ≤ (b.size : Int) := by omega
        have e3 : (0 : Int) ≤ (k : Int) + (n : Int) := by omega
        have e6 : (k : Int) ≤ (k : Int) + (n : Int) := by omega
        have e7 : (0 : Int) ≤ (k : Int) := by omega
        have e8 : b.size ≤ 1048576 := by omega
        clear hbs
        obtain ⟨t, ht⟩ : ∃ t, b.extract 0 (k + n) = t := ⟨_, rfl⟩
        have HC : bl t = ((bl s).drop 4).take (k + n) := by rw [← ht, bl_extract, HBL.out, List.drop_zero, Nat.sub_zero]
        have hts : t.size ≤ 2097152 := by
          rw [← bl_length, HC, List.length_take, List.length_drop, hsl]
          omega
        have HC := hideP HC
        obtain ⟨u, hu⟩ : ∃ u, b.extract k (k + n) = u := ⟨_, rfl⟩
        have HU : bl u = (((bl s).drop 4).drop k).take n := by rw [← hu, bl_extract, HBL.out, Nat.add_sub_cancel_left]
        have hus : u.size ≤ 1048576 := by
          rw [← bl_length, HU, List.length_take, List.length_drop, List.length_drop, hsl]
          omega
        have HU := hideP HU
        go_wp2_with fail
        refine (implCrc_any t hts _).mono ?_
        rw [HC.out]
        rintro e w3 ⟨rfl, rfl⟩
        by_cases hc : crc (((bl s).drop 4).take (k + n)) = fixN (bl s)
        · have HF := hideP (frame_rest (l := bl s) (by omega) HR.out hk0 (by rw [hsl]; omega) hc)
          rw [hc]
          clear hc
          go_wp2_with fail
          refine (implReadEntry_any u hus _ (HD.out.below HB.out) m ((HB.out.cell (p := ⟨0, 0, none⟩) hw0).trans HM.out)).mono ?_
          rw [HU.out]
          cases hre : readEntry ((((bl s).drop 4).drop k).take n) with
          | none =>
            have HN0 : Hid (frame (bl s) = none) := hideP (by rw [HF.out, hre]; rfl)
            rw [show entRes ((((bl s).drop 4).drop k).take n) = .tuple #[.agg #[.int .i64 0, .int .i64 0, .int .i64 0, .int .i64 0, .int .i64 0, .int .i64 0, .int .i64 0, .int .i64 0, .int .i64 0], .bool false] from by unfold entRes; rw [hre]; rfl]
            rintro e w3 ⟨rfl, hb3⟩
            have BZ := hideP ((BZ.out.below hb3).alloc (.cells #[.int .i64 0, .int .i64 0, .int .i64 0, .int .i64 0, .int .i64 0, .int .i64 0, .int .i64 0, .int .i64 0, .int .i64 0] 25))
            have HB := hideP ((HB.out.trans (hb3.mono HB.out.size)).alloc (by have := HB.out.size; have := hb3.size; omega) (.cells #[.int .i64 0, .int .i64 0, .int .i64 0, .int .i64 0, .int .i64 0, .int .i64 0, .int .i64 0, .int .i64 0, .int .i64 0] 25))
            have hz3 : w.heap.size + 1 ≤ w3.heap.size := by have := hb3.size; simp at this; omega
            clear hre hb3
            have HN := hideP (frameRes_none (l := bl s) HN0.out)
            have z0 : (w3.alloc (.cells #[.int .i64 0, .int .i64 0, .int .i64 0, .int .i64 0, .int .i64 0, .int .i64 0, .int .i64 0, .int .i64 0, .int .i64 0] 25)).cell? ⟨w.heap.size, 0, none⟩ = some (.int .i64 0) := (BZ.out.cell 0).trans rfl
            have kz0 : (w3.alloc (.cells #[.int .i64 0, .int .i64 0, .int .i64 0, .int .i64 0, .int .i64 0, .int .i64 0, .int .i64 0, .int .i64 0, .int .i64 0] 25)).frozen? ⟨w.heap.size, 0, none⟩ = false := BZ.out.frozen 0
            have z1 : (w3.alloc (.cells #[.int .i64 0, .int .i64 0, .int .i64 0, .int .i64 0, .int .i64 0, .int .i64 0, .int .i64 0, .int .i64 0, .int .i64 0] 25)).cell? ⟨w.heap.size, 1, none⟩ = some (.int .i64 0) := (BZ.out.cell 1).trans rfl
            have kz1 : (w3.alloc (.cells #[.int .i64 0, .int .i64 0, .int .i64 0, .int .i64 0, .int .i64 0, .int .i64 0, .int .i64 0, .int .i64 0, .int .i64 0] 25)).frozen? ⟨w.heap.size, 1, none⟩ = false := BZ.out.frozen 1
            have z2 : (w3.alloc (.cells #[.int .i64 0, .int .i64 0, .int .i64 0, .int .i64 0, .int .i64 0, .int .i64 0, .int .i64 0, .int .i64 0, .int .i64 0] 25)).cell? ⟨w.heap.size, 2, none⟩ = some (.int .i64 0) := (BZ.out.cell 2).trans rfl
            have kz2 : (w3.alloc (.cells #[.int .i64 0, .int .i64 0, .int .i64 0, .int .i64 0, .int .i64 0, .int .i64 0, .int .i64 0, .int .i64 0, .int .i64 0] 25)).frozen? ⟨w.heap.size, 2, none⟩ = false := BZ.out.frozen 2
            have z3 : (w3.alloc (.cells #[.int .i64 0, .int .i64 0, .int .i64 0, .int .i64 0, .int .i64 0, .int .i64 0, .int .i64 0, .int .i64 0, .int .i64 0] 25)).cell? ⟨w.heap.size, 3, none⟩ = some (.int .i64 0) := (BZ.out.cell 3).trans rfl
            have kz3 : (w3.alloc (.cells #[.int .i64 0, .int .i64 0, .int .i64 0, .int .i64 0, .int .i64 0, .int .i64 0, .int .i64 0, .int .i64 0, .int .i64 0] 25)).frozen? ⟨w.heap.size, 3, none⟩ = false := BZ.out.frozen 3
            have z4 : (w3.alloc (.cells #[.int .i64 0, .int .i64 0, .int .i64 0, .int .i64 0, .int .i64 0, .int .i64 0, .int .i64 0, .int .i64 0, .int .i64 0] 25)).cell? ⟨w.heap.size, 4, none⟩ = some (.int .i64 0) := (BZ.out.cell 4).trans rfl
            have kz4 : (w3.alloc (.cells #[.int .i64 0, .int .i64 0, .int .i64 0, .int .i64 0, .int .i64 0, .int .i64 0, .int .i64 0, .int .i64 0, .int .i64 0] 25)).frozen? ⟨w.heap.size, 4, none⟩ = false := BZ.out.frozen 4
            have z5 : (w3.alloc (.cells #[.int .i64 0, .int .i64 0, .int .i64 0, .int .i64 0, .int .i64 0, .int .i64 0, .int .i64 0, .int .i64 0, .int .i64 0] 25)).cell? ⟨w.heap.size, 5, none⟩ = some (.int .i64 0) := (BZ.out.cell 5).trans rfl
            have kz5 : (w3.alloc (.cells #[.int .i64 0, .int .i64 0, .int .i64 0, .int .i64 0, .int .i64 0, .int .i64 0, .int .i64 0, .int .i64 0, .int .i64 0] 25)).frozen? ⟨w.heap.size, 5, none⟩ = false := BZ.out.frozen 5
            have z6 : (w3.alloc (.cells #[.int .i64 0, .int .i64 0, .int .i64 0, .int .i64 0, .int .i64 0, .int .i64 0, .int .i64 0, .int .i64 0, .int .i64 0] 25)).cell? ⟨w.heap.size, 6, none⟩ = some (.int .i64 0) := (BZ.out.cell 6).trans rfl
            have kz6 : (w3.alloc (.cells #[.int .i64 0, .int .i64 0, .int .i64 0, .int .i64 0, .int .i64 0, .int .i64 0, .int .i64 0, .int .i64 0, .int .i64 0] 25)).frozen? ⟨w.heap.size, 6, none⟩ = false := BZ.out.frozen 6
            have z7 : (w3.alloc (.cells #[.int .i64 0, .int .i64 0, .int .i64 0, .int .i64 0, .int .i64 0, .int .i64 0, .int .i64 0, .int .i64 0, .int .i64 0] 25)).cell? ⟨w.heap.size, 7, none⟩ = some (.int .i64 0) := (BZ.out.cell 7).trans rfl
            have kz7 : (w3.alloc (.cells #[.int .i64 0, .int .i64 0, .int .i64 0, .int .i64 0, .int .i64 0, .int .i64 0, .int .i64 0, .int .i64 0, .int .i64 0] 25)).frozen? ⟨w.heap.size, 7, none⟩ = false := BZ.out.frozen 7
            have z8 : (w3.alloc (.cells #[.int .i64 0, .int .i64 0, .int .i64 0, .int .i64 0, .int .i64 0, .int .i64 0, .int .i64 0, .int .i64 0, .int .i64 0] 25)).cell? ⟨w.heap.size, 8, none⟩ = some (.int .i64 0) := (BZ.out.cell 8).trans rfl
            have kz8 : (w3.alloc (.cells #[.int .i64 0, .int .i64 0, .int .i64 0, .int .i64 0, .int .i64 0, .int .i64 0, .int .i64 0, .int .i64 0, .int .i64 0] 25)).frozen? ⟨w.heap.size, 8, none⟩ = false := BZ.out.frozen 8
            go_wp2
            refine bodyPost_ret (v := frameRes (bl s)) (by rw [HN.out]; simp [results, Tryd.results24, go_sem, z0, z1, z2, z3, z4, z5, z6, z7, z8]) rfl ⟨rfl, ?_⟩
            repeat (first | (with_reducible exact HB.out) | refine Below.setCell ?_ (by simp) _)
          | some E =>
            have HN0 : Hid (frame (bl s) = some (E, 4 + k + n)) := hideP (by rw [HF.out, hre]; rfl)
            rw [show entRes ((((bl s).drop 4).drop k).take n) = .tuple #[.agg E.cells, .bool true] from by unfold entRes; rw [hre]; rfl]
            rintro e w3 ⟨rfl, hb3⟩
            have HN := hideP (frameRes_some (l := bl s) HN0.out)
            obtain ⟨a0, a1, a2, a3, a4, a5, a6, a7, a8⟩ := E
            unfold Entry.cells at HN ⊢
            have BZ := hideP ((BZ.out.below hb3).alloc (.cells #[.int .i64 a0, .int .i64 a1, .int .i64 a2, .int .i64 a3, .int .i64 a4, .int .i64 a5, .int .i64 a6, .int .i64 a7, .int .i64 a8] 25))
            have HB := hideP ((HB.out.trans (hb3.mono HB.out.size)).alloc (by have := HB.out.size; have := hb3.size; omega) (.cells #[.int .i64 a0, .int .i64 a1, .int .i64 a2, .int .i64 a3, .int .i64 a4, .int .i64 a5, .int .i64 a6, .int .i64 a7, .int .i64 a8] 25))
            have hz3 : w.heap.size + 1 ≤ w3.heap.size := by have := hb3.size; simp at this; omega
            have hN4 : ((4 + k + n : Nat) : Int) = 4 + (k : Int) + (n : Int) := by omega
            clear hre hb3 HN0 HF
            have z0 : (w3.alloc (.cells #[.int .i64 a0, .int .i64 a1, .int .i64 a2, .int .i64 a3, .int .i64 a4, .int .i64 a5, .int .i64 a6, .int .i64 a7, .int .i64 a8] 25)).cell? ⟨w.heap.size, 0, none⟩ = some (.int .i64 0) := (BZ.out.cell 0).trans rfl
            have kz0 : (w3.alloc (.cells #[.int .i64 a0, .int .i64 a1, .int .i64 a2, .int .i64 a3, .int .i64 a4, .int .i64 a5, .int .i64 a6, .int .i64 a7, .int .i64 a8] 25)).frozen? ⟨w.heap.size, 0, none⟩ = false := BZ.out.frozen 0
            have z1 : (w3.alloc (.cells #[.int .i64 a0, .int .i64 a1, .int .i64 a2, .int .i64 a3, .int .i64 a4, .int .i64 a5, .int .i64 a6, .int .i64 a7, .int .i64 a8] 25)).cell? ⟨w.heap.size, 1, none⟩ = some (.int .i64 0) := (BZ.out.cell 1).trans rfl
            have kz1 : (w3.alloc (.cells #[.int .i64 a0, .int .i64 a1, .int .i64 a2, .int .i64 a3, .int .i64 a4, .int .i64 a5, .int .i64 a6, .int .i64 a7, .int .i64 a8] 25)).frozen? ⟨w.heap.size, 1, none⟩ = false := BZ.out.frozen 1
            have z2 : (w3.alloc (.cells #[.int .i64 a0, .int .i64 a1, .int .i64 a2, .int .i64 a3, .int .i64 a4, .int .i64 a5, .int .i64 a6, .int .i64 a7, .int .i64 a8] 25)).cell? ⟨w.heap.size, 2, none⟩ = some (.int .i64 0) := (BZ.out.cell 2).trans rfl
            have kz2 : (w3.alloc (.cells #[.int .i64 a0, .int .i64 a1, .int .i64 a2, .int .i64 a3, .int .i64 a4, .int .i64 a5, .int .i64 a6, .int .i64 a7, .int .i64 a8] 25)).frozen? ⟨w.heap.size, 2, none⟩ = false := BZ.out.frozen 2
            have z3 : (w3.alloc (.cells #[.int .i64 a0, .int .i64 a1, .int .i64 a2, .int .i64 a3, .int .i64 a4, .int .i64 a5, .int .i64 a6, .int .i64 a7, .int .i64 a8] 25)).cell? ⟨w.heap.size, 3, none⟩ = some (.int .i64 0) := (BZ.out.cell 3).trans rfl
            have kz3 : (w3.alloc (.cells #[.int .i64 a0, .int .i64 a1, .int .i64 a2, .int .i64 a3, .int .i64 a4, .int .i64 a5, .int .i64 a6, .int .i64 a7, .int .i64 a8] 25)).frozen? ⟨w.heap.size, 3, none⟩ = false := BZ.out.frozen 3
            have z4 : (w3.alloc (.cells #[.int .i64 a0, .int .i64 a1, .int .i64 a2, .int .i64 a3, .int .i64 a4, .int .i64 a5, .int .i64 a6, .int .i64 a7, .int .i64 a8] 25)).cell? ⟨w.heap.size, 4, none⟩ = some (.int .i64 0) := (BZ.out.cell 4).trans rfl
            have kz4 : (w3.alloc (.cells #[.int .i64 a0, .int .i64 a1, .int .i64 a2, .int .i64 a3, .int .i64 a4, .int .i64 a5, .int .i64 a6, .int .i64 a7, .int .i64 a8] 25)).frozen? ⟨w.heap.size, 4, none⟩ = false := BZ.out.frozen 4
            have z5 : (w3.alloc (.cells #[.int .i64 a0, .int .i64 a1, .int .i64 a2, .int .i64 a3, .int .i64 a4, .int .i64 a5, .int .i64 a6, .int .i64 a7, .int .i64 a8] 25)).cell? ⟨w.heap.size, 5, none⟩ = some (.int .i64 0) := (BZ.out.cell 5).trans rfl
            have kz5 : (w3.alloc (.cells #[.int .i64 a0, .int .i64 a1, .int .i64 a2, .int .i64 a3, .int .i64 a4, .int .i64 a5, .int .i64 a6, .int .i64 a7, .int .i64 a8] 25)).frozen? ⟨w.heap.size, 5, none⟩ = false := BZ.out.frozen 5
            have z6 : (w3.alloc (.cells #[.int .i64 a0, .int .i64 a1, .int .i64 a2, .int .i64 a3, .int .i64 a4, .int .i64 a5, .int .i64 a6, .int .i64 a7, .int .i64 a8] 25)).cell? ⟨w.heap.size, 6, none⟩ = some (.int .i64 0) := (BZ.out.cell 6).trans rfl
            have kz6 : (w3.alloc (.cells #[.int .i64 a0, .int .i64 a1, .int .i64 a2, .int .i64 a3, .int .i64 a4, .int .i64 a5, .int .i64 a6, .int .i64 a7, .int .i64 a8] 25)).frozen? ⟨w.heap.size, 6, none⟩ = false := BZ.out.frozen 6
            have z7 : (w3.alloc (.cells #[.int .i64 a0, .int .i64 a1, .int .i64 a2, .int .i64 a3, .int .i64 a4, .int .i64 a5, .int .i64 a6, .int .i64 a7, .int .i64 a8] 25)).cell? ⟨w.heap.size, 7, none⟩ = some (.int .i64 0) := (BZ.out.cell 7).trans rfl
            have kz7 : (w3.alloc (.cells #[.int .i64 a0, .int .i64 a1, .int .i64 a2, .int .i64 a3, .int .i64 a4, .int .i64 a5, .int .i64 a6, .int .i64 a7, .int .i64 a8] 25)).frozen? ⟨w.heap.size, 7, none⟩ = false := BZ.out.frozen 7
            have z8 : (w3.alloc (.cells #[.int .i64 a0, .int .i64 a1, .int .i64 a2, .int .i64 a3, .int .i64 a4, .int .i64 a5, .int .i64 a6, .int .i64 a7, .int .i64 a8] 25)).cell? ⟨w.heap.size, 8, none⟩ = some (.int .i64 0) := (BZ.out.cell 8).trans rfl
            have kz8 : (w3.alloc (.cells #[.int .i64 a0, .int .i64 a1, .int .i64 a2, .int .i64 a3, .int .i64 a4, .int .i64 a5, .int .i64 a6, .int .i64 a7, .int .i64 a8] 25)).frozen? ⟨w.heap.size, 8, none⟩ = false := BZ.out.frozen 8
            go_wp2
            have BN := (((((((((BZ.out.set 0 (.int .i64 a0)).set 1 (.int .i64 a1)).set 2 (.int .i64 a2)).set 3 (.int .i64 a3)).set 4 (.int .i64 a4)).set 5 (.int .i64 a5)).set 6 (.int .i64 a6)).set 7 (.int .i64 a7)).set 8 (.int .i64 a8))
            have HB := hideP ((((((((((HB.out.setCell (p := ⟨w.heap.size, 0, none⟩) (Nat.le_refl _) (.int .i64 a0)).setCell (p := ⟨w.heap.size, 1, none⟩) (Nat.le_refl _) (.int .i64 a1)).setCell (p := ⟨w.heap.size, 2, none⟩) (Nat.le_refl _) (.int .i64 a2)).setCell (p := ⟨w.heap.size, 3, none⟩) (Nat.le_refl _) (.int .i64 a3)).setCell (p := ⟨w.heap.size, 4, none⟩) (Nat.le_refl _) (.int .i64 a4)).setCell (p := ⟨w.heap.size, 5, none⟩) (Nat.le_refl _) (.int .i64 a5)).setCell (p := ⟨w.heap.size, 6, none⟩) (Nat.le_refl _) (.int .i64 a6)).setCell (p := ⟨w.heap.size, 7, none⟩) (Nat.le_refl _) (.int .i64 a7)).setCell (p := ⟨w.heap.size, 8, none⟩) (Nat.le_refl _) (.int .i64 a8)))
            obtain ⟨wn, hwn⟩ : ∃ wn : World, wn = ((((((((((w3.alloc (.cells #[.int .i64 a0, .int .i64 a1, .int .i64 a2, .int .i64 a3, .int .i64 a4, .int .i64 a5, .int .i64 a6, .int .i64 a7, .int .i64 a8] 25)).setCell ⟨w.heap.size, 0, none⟩ (.int .i64 a0)).setCell ⟨w.heap.size, 1, none⟩ (.int .i64 a1)).setCell ⟨w.heap.size, 2, none⟩ (.int .i64 a2)).setCell ⟨w.heap.size, 3, none⟩ (.int .i64 a3)).setCell ⟨w.heap.size, 4, none⟩ (.int .i64 a4)).setCell ⟨w.heap.size, 5, none⟩ (.int .i64 a5)).setCell ⟨w.heap.size, 6, none⟩ (.int .i64 a6)).setCell ⟨w.heap.size, 7, none⟩ (.int .i64 a7)).setCell ⟨w.heap.size, 8, none⟩ (.int .i64 a8)) := ⟨_, rfl⟩
            rw [← hwn] at BN HB ⊢
            clear hwn z0 z1 z2 z3 z4 z5 z6 z7 z8 kz0 kz1 kz2 kz3 kz4 kz5 kz6 kz7 kz8
            have z0 : wn.cell? ⟨w.heap.size, 0, none⟩ = some (.int .i64 a0) := (BN.cell 0).trans rfl
            have z1 : wn.cell? ⟨w.heap.size, 1, none⟩ = some (.int .i64 a1) := (BN.cell 1).trans rfl
            have z2 : wn.cell? ⟨w.heap.size, 2, none⟩ = some (.int .i64 a2) := (BN.cell 2).trans rfl
            have z3 : wn.cell? ⟨w.heap.size, 3, none⟩ = some (.int .i64 a3) := (BN.cell 3).trans rfl
            have z4 : wn.cell? ⟨w.heap.size, 4, none⟩ = some (.int .i64 a4) := (BN.cell 4).trans rfl
            have z5 : wn.cell? ⟨w.heap.size, 5, none⟩ = some (.int .i64 a5) := (BN.cell 5).trans rfl
            have z6 : wn.cell? ⟨w.heap.size, 6, none⟩ = some (.int .i64 a6) := (BN.cell 6).trans rfl
            have z7 : wn.cell? ⟨w.heap.size, 7, none⟩ = some (.int .i64 a7) := (BN.cell 7).trans rfl
            have z8 : wn.cell? ⟨w.heap.size, 8, none⟩ = some (.int .i64 a8) := (BN.cell 8).trans rfl
            refine bodyPost_ret (v := frameRes (bl s)) (by rw [HN.out, hN4]; simp [results, Tryd.results24, go_sem, z0, z1, z2, z3, z4, z5, z6, z7, z8]) rfl ⟨rfl, HB.out⟩
        · have e5 : ((crc (((bl s).drop 4).take (k + n)) : Int) != (fixN (bl s) : Int)) = true := by
            rw [bne_iff_ne]
            omega
          have HN0 := hideP (frame_no (l := bl s) HR.out (.inr (.inr hc)))
          clear hc
          have HN := hideP (frameRes_none (l := bl s) HN0.out)
          have z0 : (w.alloc (.cells #[.int .i64 0, .int .i64 0, .int .i64 0, .int .i64 0, .int .i64 0, .int .i64 0, .int .i64 0, .int .i64 0, .int .i64 0] 25)).cell? ⟨w.heap.size, 0, none⟩ = some (.int .i64 0) := (BZ.out.cell 0).trans rfl
          have kz0 : (w.alloc (.cells #[.int .i64 0, .int .i64 0, .int .i64 0, .int .i64 0, .int .i64 0, .int .i64 0, .int .i64 0, .int .i64 0, .int .i64 0] 25)).frozen? ⟨w.heap.size, 0, none⟩ = false := BZ.out.frozen 0
          have z1 : (w.alloc (.cells #[.int .i64 0, .int .i64 0, .int .i64 0, .int .i64 0, .int .i64 0, .int .i64 0, .int .i64 0, .int .i64 0, .int .i64 0] 25)).cell? ⟨w.heap.size, 1, none⟩ = some (.int .i64 0) := (BZ.out.cell 1).trans rfl
          have kz1 : (w.alloc (.cells #[.int .i64 0, .int .i64 0, .int .i64 0, .int .i64 0, .int .i64 0, .int .i64 0, .int .i64 0, .int .i64 0, .int .i64 0] 25)).frozen? ⟨w.heap.size, 1, none⟩ = false := BZ.out.frozen 1
          have z2 : (w.alloc (.cells #[.int .i64 0, .int .i64 0, .int .i64 0, .int .i64 0, .int .i64 0, .int .i64 0, .int .i64 0, .int .i64 0, .int .i64 0] 25)).cell? ⟨w.heap.size, 2, none⟩ = some (.int .i64 0) := (BZ.out.cell 2).trans rfl
          have kz2 : (w.alloc (.cells #[.int .i64 0, .int .i64 0, .int .i64 0, .int .i64 0, .int .i64 0, .int .i64 0, .int .i64 0, .int .i64 0, .int .i64 0] 25)).frozen? ⟨w.heap.size, 2, none⟩ = false := BZ.out.frozen 2
          have z3 : (w.alloc (.cells #[.int .i64 0, .int .i64 0, .int .i64 0, .int .i64 0, .int .i64 0, .int .i64 0, .int .i64 0, .int .i64 0, .int .i64 0] 25)).cell? ⟨w.heap.size, 3, none⟩ = some (.int .i64 0) := (BZ.out.cell 3).trans rfl
          have kz3 : (w.alloc (.cells #[.int .i64 0, .int .i64 0, .int .i64 0, .int .i64 0, .int .i64 0, .int .i64 0, .int .i64 0, .int .i64 0, .int .i64 0] 25)).frozen? ⟨w.heap.size, 3, none⟩ = false := BZ.out.frozen 3
          have z4 : (w.alloc (.cells #[.int .i64 0, .int .i64 0, .int .i64 0, .int .i64 0, .int .i64 0, .int .i64 0, .int .i64 0, .int .i64 0, .int .i64 0] 25)).cell? ⟨w.heap.size, 4, none⟩ = some (.int .i64 0) := (BZ.out.cell 4).trans rfl
          have kz4 : (w.alloc (.cells #[.int .i64 0, .int .i64 0, .int .i64 0, .int .i64 0, .int .i64 0, .int .i64 0, .int .i64 0, .int .i64 0, .int .i64 0] 25)).frozen? ⟨w.heap.size, 4, none⟩ = false := BZ.out.frozen 4
          have z5 : (w.alloc (.cells #[.int .i64 0, .int .i64 0, .int .i64 0, .int .i64 0, .int .i64 0, .int .i64 0, .int .i64 0, .int .i64 0, .int .i64 0] 25)).cell? ⟨w.heap.size, 5, none⟩ = some (.int .i64 0) := (BZ.out.cell 5).trans rfl
          have kz5 : (w.alloc (.cells #[.int .i64 0, .int .i64 0, .int .i64 0, .int .i64 0, .int .i64 0, .int .i64 0, .int .i64 0, .int .i64 0, .int .i64 0] 25)).frozen? ⟨w.heap.size, 5, none⟩ = false := BZ.out.frozen 5
          have z6 : (w.alloc (.cells #[.int .i64 0, .int .i64 0, .int .i64 0, .int .i64 0, .int .i64 0, .int .i64 0, .int .i64 0, .int .i64 0, .int .i64 0] 25)).cell? ⟨w.heap.size, 6, none⟩ = some (.int .i64 0) := (BZ.out.cell 6).trans rfl
          have kz6 : (w.alloc (.cells #[.int .i64 0, .int .i64 0, .int .i64 0, .int .i64 0, .int .i64 0, .int .i64 0, .int .i64 0, .int .i64 0, .int .i64 0] 25)).frozen? ⟨w.heap.size, 6, none⟩ = false := BZ.out.frozen 6
          have z7 : (w.alloc (.cells #[.int .i64 0, .int .i64 0, .int .i64 0, .int .i64 0, .int .i64 0, .int .i64 0, .int .i64 0, .int .i64 0, .int .i64 0] 25)).cell? ⟨w.heap.size, 7, none⟩ = some (.int .i64 0) := (BZ.out.cell 7).trans rfl
          have kz7 : (w.alloc (.cells #[.int .i64 0, .int .i64 0, .int .i64 0, .int .i64 0, .int .i64 0, .int .i64 0, .int .i64 0, .int .i64 0, .int .i64 0] 25)).frozen? ⟨w.heap.size, 7, none⟩ = false := BZ.out.frozen 7
          have z8 : (w.alloc (.cells #[.int .i64 0, .int .i64 0, .int .i64 0, .int .i64 0, .int .i64 0, .int .i64 0, .int .i64 0, .int .i64 0, .int .i64 0] 25)).cell? ⟨w.heap.size, 8, none⟩ = some (.int .i64 0) := (BZ.out.cell 8).trans rfl
          have kz8 : (w.alloc (.cells #[.int .i64 0, .int .i64 0, .int .i64 0, .int .i64 0, .int .i64 0, .int .i64 0, .int .i64 0, .int .i64 0, .int .i64 0] 25)).frozen? ⟨w.heap.size, 8, none⟩ = false := BZ.out.frozen 8
          go_wp2
          refine bodyPost_ret (v := frameRes (bl s)) (by rw [HN.out]; simp [results, Tryd.results24, go_sem, z0, z1, z2, z3, z4, z5, z6, z7, z8]) rfl ⟨rfl, ?_⟩
          repeat (first | (with_reducible exact HB.out) | refine Below.setCell ?_ (by simp) _)

end Go.Proofs.YtamfgkicmikmbaaDoor
