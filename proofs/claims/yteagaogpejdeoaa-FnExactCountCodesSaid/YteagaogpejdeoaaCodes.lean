/- CountCodes of both sides. -/
import Derived.Test.YteagaogpejdeoaaReplyTo
import Derived.Test.YteagaogpejdeoaaRenew
import Derived.Deep.LoopGhost
namespace Go.Proofs.Yteagaogpejdeoaa
open Go.RowKit

def codeStep (c : List Int) (r : Reply) : List Int := if inB r.c 0 8 = true then c.set r.c.toNat (c.getD r.c.toNat 0 + 1) else c
def countCodes (l : List Reply) : List Int := l.foldl codeStep (List.replicate 9 0)
theorem codeStep_len (c : List Int) (r : Reply) : (codeStep c r).length = c.length := by unfold codeStep; split <;> simp
theorem countCodes_length (l : List Reply) : (countCodes l).length = 9 := by
  have : ∀ (l : List Reply) (c : List Int), (l.foldl codeStep c).length = c.length := by
    intro l
    induction l with
    | nil => intro c; rfl
    | cons r l ih => intro c; rw [List.foldl_cons, ih, codeStep_len]
  unfold countCodes; rw [this]; rfl
theorem code_in {c : List Int} {r : Reply} (h : inB r.c 0 8 = true) : codeStep c r = c.set r.c.toNat (c.getD r.c.toNat 0 + 1) := by unfold codeStep; rw [if_pos h]
theorem code_out {c : List Int} {r : Reply} (h : inB r.c 0 8 = false) : codeStep c r = c := by unfold codeStep; rw [if_neg (by simp [h])]
/-- Each count is at most k. -/
def CodesLe (c : List Int) (k : Nat) : Prop := c.length = 9 ∧ ∀ i, 0 ≤ c.getD i 0 ∧ c.getD i 0 ≤ (k : Int)
theorem CodesLe.next {c : List Int} {k : Nat} (h : CodesLe c k) (i : Nat) : CodesLe (c.set i (c.getD i 0 + 1)) (k + 1) := by
  refine ⟨by simpa using h.1, fun j => ?_⟩
  have h1 := h.2 i
  have h2 := h.2 j
  simp only [List.getD_eq_getElem?_getD, List.getElem?_set] at h1 h2 ⊢
  by_cases hj : i = j
  · subst hj
    by_cases hi : i < c.length
    · rw [if_pos rfl, if_pos hi]; simp; omega
    · rw [if_pos rfl, if_neg hi]; simp; omega
  · rw [if_neg hj]; omega
theorem CodesLe.stay {c : List Int} {k : Nat} (h : CodesLe c k) : CodesLe c (k + 1) := ⟨h.1, fun j => by have := h.2 j; omega⟩

theorem codes0 : CodesLe (List.replicate 9 0) 0 := by
  refine ⟨by simp, fun i => ?_⟩
  rw [List.getD_eq_getElem?_getD, List.getElem?_replicate]
  split <;> simp

def IntRow (w : World) (G N : Nat) (r : List Int) : Prop := r.length = N ∧ w.ownsRow G 3 1 (.slice (some ⟨G, 0, none⟩) N N) N (r.map (Value.int .i64))
theorem IntRow.cell {w : World} {G N : Nat} {r : List Int} (h : IntRow w G N r) {i : Nat} (hi : i < N) : w.cell? ⟨G, i, none⟩ = some (.int .i64 (r.getD i 0)) := by
  rw [h.2.cellAt i (by omega), List.getElem?_map, List.getElem?_eq_getElem (by rw [h.1]; exact hi), List.getD_eq_getElem?_getD, List.getElem?_eq_getElem (by rw [h.1]; exact hi)]
  rfl
theorem IntRow.frozen {w : World} {G N : Nat} {r : List Int} (h : IntRow w G N r) (i : Nat) : w.frozen? ⟨G, i, none⟩ = false := h.2.frozenAt i
theorem IntRow.alloc {w : World} {G N : Nat} {r : List Int} (h : IntRow w G N r) (o : Obj) : IntRow (w.alloc o) G N r := ⟨h.1, h.2.alloc o⟩
theorem IntRow.drew {w : World} {G N : Nat} {r : List Int} (h : IntRow w G N r) : IntRow w.drew G N r := h
theorem IntRow.set {w : World} {G N : Nat} {r : List Int} (h : IntRow w G N r) (i : Nat) (v : Int) : IntRow (w.setCell ⟨G, i, none⟩ (.int .i64 v)) G N (r.set i v) :=
  ⟨by simpa using h.1, by have := (h.2.stored i (.int .i64 v)).1; rwa [← List.map_set] at this⟩
theorem IntRow.lt {w : World} {G N : Nat} {r : List Int} (h : IntRow w G N r) : G < w.heap.size := (h.2.lt G rfl).2

set_option maxRecDepth 100000 in
set_option maxHeartbeats 2000000 in
theorem implCountCodes_any (a : Option Addr) (n cap : Nat) (l : List Reply) (hn : n = l.length) (hl : n ≤ 1048576) (w : World) (h : Rd w a (l.flatMap Reply.enc)) :
    Calls Try.prog 42 #[.slice a n cap] w (OwnRet w 3 1 (countCodes l).length ((countCodes l).map (Value.int .i64))) := by
  have Hn := Lib.hid hn
  clear hn
  rw [countCodes_length]
  obtain ⟨i0, hi, hz0, hz1, hz2⟩ := info_parts Try.infoInt
  go_enter Try.func42, Try.ntmps42
  go_wp2_with (at_make; refine wpList_make_full _ rfl _ _ 36 rfl w.heap.size 3 i0 (.int .i64 0) 1 Try.underlying36 hi hz0 hz1 .i64 .i64 _ _ 9 rfl rfl rfl rfl ?c1 ?c2 (Nat.le_refl _) ?_)
  case c1 => rw [hz2]; decide
  case c2 => decide
  intro w1 hown hg
  have hmk0 : IntRow w1 w.heap.size 9 (List.replicate 9 0) := ⟨by simp, by
    have := hown
    rw [toList_madeCells_one] at this
    rw [List.map_replicate]; exact this⟩
  have hb1 := (Below.refl w.heap.size w).grown hg (Nat.le_refl _) (by simp)
  have hs1 := hmk0.lt
  have Hmk := Lib.hid hmk0
  clear hmk0 hown hg
  go_wp2
  go_loopg [9] (n + 1) (fun gk i wr => ∃ (k : Nat) (c : List Int), n - k < gk ∧ k ≤ n ∧ i = .int .i64 k ∧ Hid (IntRow wr w.heap.size 9 c) ∧ Hid (l.foldl codeStep (List.replicate 9 0) = (l.drop k).foldl codeStep c) ∧ Hid (CodesLe c k) ∧ Below w.heap.size w wr ∧ w.heap.size < wr.heap.size)
  case atStart => exact ⟨0, _, by omega, by omega, rfl, Hmk, hideP rfl, hideP codes0, hb1, hs1⟩
  case round =>
    obtain ⟨k, c, hgk, hk, rfl, hmk, hf, hle, hb, hs1⟩ := hrel
    by_cases hlt : k < n
    · obtain ⟨x, hx⟩ := some_at (l := l) (k := k) (by have := Hn.out; omega)
      obtain ⟨b, o, ha, hbw, g1, g2⟩ := (h.below hb).rowReply hx
      subst ha
      have Hx := Lib.hid hx
      clear hx
      cases t1 : inB x.c 0 8
      · have Hs := Lib.hid (fold_step hf.out Hx.out)
        rw [code_out t1] at Hs
        go_wp2_with (go_at_call 60; refine (within_any _ _ _ _).mono ?_; rintro e w' ⟨rfl, rfl⟩)
        go_roundg (gk - 1)
        case measure => omega
        case rel => exact ⟨k + 1, c, by omega, by omega, by go_num, hideP (hmk.out.alloc _), Hs, hideP hle.out.stay, (hb.alloc (by omega) _), by simp; omega⟩
      · have e1 := inB_true.1 t1
        have Hs := Lib.hid (fold_step hf.out Hx.out)
        rw [code_in t1] at Hs
        obtain ⟨xc, xv⟩ := x
        dsimp only at e1 t1 g1 g2 Hs
        obtain ⟨q, rfl⟩ := Int.eq_ofNat_of_zero_le e1.1
        rw [Int.toNat_natCast] at Hs
        have hq9 : q < 9 := by omega
        have hcl := hle.out.2 q
        obtain ⟨hcl0, hcl1⟩ := hcl
        have hc := hmk.out.cell hq9
        have hfz := hmk.out.frozen q
        have Hle := hideP (hle.out.next q)
        clear e1
        generalize c.getD q 0 = v at hcl0 hcl1 hc Hs Hle
        go_wp2_with (go_at_call 60; refine (within_any _ _ _ _).mono ?_; rintro e w' ⟨rfl, rfl⟩)
        go_roundg (gk - 1)
        case measure => omega
        case rel => exact ⟨k + 1, c.set q (v + 1), by omega, by omega, by go_num, hideP ((hmk.out.set q (v + 1)).alloc _), Hs, Hle, (hb.setCell (p := ⟨w.heap.size, q, none⟩) (Nat.le_refl _) _).alloc (by simp; omega) _, by simp; omega⟩
    · have he := fold_end hf.out (by have := Hn.out; omega)
      have He := Lib.hid he
      clear he
      go_wp2
      go_ret
      refine ⟨_, rfl, ?_, hb⟩
      rw [countCodes, He.out]
      exact hmk.out.2

set_option maxRecDepth 100000 in
set_option maxHeartbeats 2000000 in
theorem specCountCodes_any (a : Option Addr) (n cap : Nat) (l : List Reply) (hn : n = l.length) (hl : n ≤ 1048576) (w : World) (h : Rd w a (l.flatMap Reply.enc)) :
    Calls Try.prog 40 #[.slice a n cap] w (OwnRet w 3 1 (countCodes l).length ((countCodes l).map (Value.int .i64))) := by
  have Hn := Lib.hid hn
  clear hn
  rw [countCodes_length]
  obtain ⟨i0, hi, hz0, hz1, hz2⟩ := info_parts Try.infoInt
  go_enter Try.func40, Try.ntmps40
  go_wp2_with (at_make; refine wpList_make_full _ rfl _ _ 36 rfl w.heap.size 3 i0 (.int .i64 0) 1 Try.underlying36 hi hz0 hz1 .i64 .i64 _ _ 9 rfl rfl rfl rfl ?c1 ?c2 (Nat.le_refl _) ?_)
  case c1 => rw [hz2]; decide
  case c2 => decide
  intro w1 hown hg
  have hmk0 : IntRow w1 w.heap.size 9 (List.replicate 9 0) := ⟨by simp, by
    have := hown
    rw [toList_madeCells_one] at this
    rw [List.map_replicate]; exact this⟩
  have hb1 := (Below.refl w.heap.size w).grown hg (Nat.le_refl _) (by simp)
  have hs1 := hmk0.lt
  have Hmk := Lib.hid hmk0
  clear hmk0 hown hg
  go_wp2
  go_loopg [4] (n + 1) (fun gk i wr => ∃ (k : Nat) (c : List Int), n - k < gk ∧ k ≤ n ∧ i = .int .i64 k ∧ Hid (IntRow wr w.heap.size 9 c) ∧ Hid (l.foldl codeStep (List.replicate 9 0) = (l.drop k).foldl codeStep c) ∧ Hid (CodesLe c k) ∧ Below w.heap.size w wr ∧ w.heap.size < wr.heap.size)
  case atStart => exact ⟨0, _, by omega, by omega, rfl, Hmk, hideP rfl, hideP codes0, hb1, hs1⟩
  case round =>
    obtain ⟨k, c, hgk, hk, rfl, hmk, hf, hle, hb, hs1⟩ := hrel
    by_cases hlt : k < n
    · obtain ⟨x, hx⟩ := some_at (l := l) (k := k) (by have := Hn.out; omega)
      obtain ⟨b, o, ha, hbw, g1, g2⟩ := (h.below hb).rowReply hx
      subst ha
      have Hx := Lib.hid hx
      clear hx
      cases t1 : inB x.c 0 8
      · have Hs := Lib.hid (fold_step hf.out Hx.out)
        rw [code_out t1] at Hs
        go_wp2_with (go_at_call 57; refine (l1In_any _ _ _ _).mono ?_; rintro e w' ⟨rfl, rfl⟩)
        go_roundg (gk - 1)
        case measure => omega
        case rel => exact ⟨k + 1, c, by omega, by omega, by go_num, hmk, Hs, hideP hle.out.stay, hb, hs1⟩
      · have e1 := inB_true.1 t1
        have Hs := Lib.hid (fold_step hf.out Hx.out)
        rw [code_in t1] at Hs
        obtain ⟨xc, xv⟩ := x
        dsimp only at e1 t1 g1 g2 Hs
        obtain ⟨q, rfl⟩ := Int.eq_ofNat_of_zero_le e1.1
        rw [Int.toNat_natCast] at Hs
        have hq9 : q < 9 := by omega
        have hcl := hle.out.2 q
        obtain ⟨hcl0, hcl1⟩ := hcl
        have hc := hmk.out.cell hq9
        have hfz := hmk.out.frozen q
        have Hle := hideP (hle.out.next q)
        clear e1
        generalize c.getD q 0 = v at hcl0 hcl1 hc Hs Hle
        go_wp2_with (go_at_call 57; refine (l1In_any _ _ _ _).mono ?_; rintro e w' ⟨rfl, rfl⟩)
        go_region
        go_wp2
        go_roundg (gk - 1)
        case measure => omega
        case rel => exact ⟨k + 1, c.set q (v + 1), by omega, by omega, by go_num, hideP (hmk.out.set q (v + 1)), Hs, Hle, (hb.setCell (p := ⟨w.heap.size, q, none⟩) (Nat.le_refl _) _).drew, by simpa using hs1⟩
    · have he := fold_end hf.out (by have := Hn.out; omega)
      have He := Lib.hid he
      clear he
      go_wp2
      go_ret
      refine ⟨_, rfl, ?_, hb⟩
      rw [countCodes, He.out]
      exact hmk.out.2
end Go.Proofs.Yteagaogpejdeoaa
