/- Contracts on typed data (printed by wip/gen/vx.py out of wip/v/F46.v). -/
import Derived.Test.YtiimdlkeikcfiaaGreatVW
import Derived.Test.YtiimdlkeikcfiaaGreatZClaimFnCyclea
namespace Go.Proofs.YtiimdlkeikcfiaaGreat.V
open Go.RowKit M
set_option maxRecDepth 100000
set_option maxHeartbeats 1000000
def offI (i : Int) (k : Nat) (Y : List Obj) (j : Nat) : List Obj := if (Y.getD k (d0 .obj)).links.getD j (d0 .i64) = i then Y.set k (Obj.w10 ((Y.getD k (d0 .obj)).links.set j (-1)) (Y.getD k (d0 .obj))) else Y
def offL (i : Int) (k : Nat) (Y : List Obj) (n : Nat) : List Obj := (List.range n).foldl (offI i k) Y
def inK (i : Int) (X : List Obj) (k : Nat) : List Obj := if (X.getD k (d0 .obj)).inn = i then X.set k (Obj.w2 (-1) (X.getD k (d0 .obj))) else X
def freeK (i : Int) (X : List Obj) (k : Nat) : List Obj :=
  if (X.getD k (d0 .obj)).kind = 0 then X else offL i k (inK i X k) ((inK i X k).getD k (d0 .obj)).links.length
def freeGo (i : Int) (X : List Obj) (n : Nat) : List Obj := (List.range n).foldl (freeK i) X
def freeA (l : List Obj) (i : Int) : List Obj × Bool :=
  if arenaOk l && (inB i 1 9 && (l.getD i.toNat (d0 .obj)).kind != 0) then (freeGo i (l.set i.toNat { d0 .obj with gen := (l.getD i.toNat (d0 .obj)).gen }) 10, true) else (l, false)
theorem offL_succ (i : Int) (k : Nat) (Y : List Obj) (n : Nat) : offL i k Y (n + 1) = offI i k (offL i k Y n) n := by simp [offL, List.range_succ]
theorem freeGo_succ (i : Int) (X : List Obj) (n : Nat) : freeGo i X (n + 1) = freeK i (freeGo i X n) n := by simp [freeGo, List.range_succ]
theorem offI_at (i : Int) (k : Nat) (Y : List Obj) (j : Nat) (hk : k < Y.length) : (offI i k Y j).length = Y.length ∧ ((offI i k Y j).getD k (d0 .obj)).links.length = (Y.getD k (d0 .obj)).links.length := by
  unfold offI
  split
  · refine ⟨by rw [List.length_set], ?_⟩
    rw [set_get hk]
    show ((Y.getD k (d0 .obj)).links.set j (-1)).length = _
    rw [List.length_set]
  · exact ⟨rfl, rfl⟩
theorem offL_at (i : Int) (k : Nat) (Y : List Obj) (hk : k < Y.length) : ∀ n, (offL i k Y n).length = Y.length ∧ ((offL i k Y n).getD k (d0 .obj)).links.length = (Y.getD k (d0 .obj)).links.length
  | 0 => ⟨rfl, rfl⟩
  | n + 1 => by
    obtain ⟨h1, h2⟩ := offL_at i k Y hk n
    rw [offL_succ]
    obtain ⟨h3, h4⟩ := offI_at i k (offL i k Y n) n (by omega)
    exact ⟨by omega, by omega⟩
theorem inK_len (i : Int) (X : List Obj) (k : Nat) : (inK i X k).length = X.length := by
  unfold inK
  split
  · rw [List.length_set]
  · rfl
theorem freeK_len (i : Int) (X : List Obj) (k : Nat) (hk : k < X.length) : (freeK i X k).length = X.length := by
  unfold freeK
  split
  · rfl
  · rw [(offL_at i k _ (by rw [inK_len]; exact hk) _).1, inK_len]
/-- Lists' lengths, as they were at the most. -/
def lnB (n : Nat) (X : List Obj) : Prop := ∀ o ∈ X, o.links.length ≤ n
theorem lnB_get {n : Nat} {X : List Obj} {k : Nat} (h : lnB n X) : (X.getD k (d0 .obj)).links.length ≤ n := by
  by_cases hk : k < X.length
  · exact h _ (getD_mem hk)
  · rw [List.getD_eq_getElem?_getD, List.getElem?_eq_none (by omega)]; exact Nat.zero_le _
theorem lnB_set {n : Nat} {X : List Obj} {k : Nat} {o : Obj} (h : lnB n X) (ho : o.links.length ≤ n) : lnB n (X.set k o) := fun x hx => by
  rcases List.mem_or_eq_of_mem_set hx with hx | rfl
  · exact h x hx
  · exact ho
theorem lnB_in {n : Nat} {X : List Obj} {i : Int} {k : Nat} (h : lnB n X) : lnB n (inK i X k) := by
  unfold inK
  split
  · exact lnB_set h (lnB_get h)
  · exact h
theorem lnB_offI {n : Nat} {X : List Obj} {i : Int} {k j : Nat} (h : lnB n X) : lnB n (offI i k X j) := by
  unfold offI
  split
  · exact lnB_set h (by show (List.set _ _ _).length ≤ n; rw [List.length_set]; exact lnB_get h)
  · exact h
theorem lnB_offL {n : Nat} {X : List Obj} {i : Int} {k : Nat} (h : lnB n X) : ∀ m, lnB n (offL i k X m)
  | 0 => h
  | m + 1 => by rw [offL_succ]; exact lnB_offI (lnB_offL h m)
theorem lnB_free {n : Nat} {X : List Obj} {i : Int} {k : Nat} (h : lnB n X) : lnB n (freeK i X k) := by
  unfold freeK
  split
  · exact h
  · exact lnB_offL (lnB_in h) _
theorem obj_gen (x : Obj) (g : Int) : Obj.w10 [] (Obj.w11 [] (Obj.w12 [] (Obj.w12 [] (Obj.w11 [] (Obj.w10 [] (Obj.w9 false (Obj.w8 0 (Obj.w7 0 (Obj.w6 0 (Obj.w5 0 (Obj.w4 0 (Obj.w3 0 (Obj.w2 0 (Obj.w1 0 (Obj.w0 g x))))))))))))))) = { d0 .obj with gen := g } := rfl
theorem ArenaFree_v (l : List Obj) (i : Int) (hb : arenaB l) : VC Tryz.prog 131 [.one (.ro .obj l), iA i] (.tup [.one (.own .obj true (freeA l i).1 []), .one (bV (freeA l i).2)]) := by
  have hcp := arenaB_copy hb
  refine VC.go tiOk vtOk [5,11] Tryz.func131 rfl rfl ?_
  conv => whnf
  refine ⟨_, copyArena_v l hb.1 hcp, ?_⟩
  conv => whnf
  refine ⟨_, ArenaOk_v l hb, ?_⟩
  conv => whnf
  by_cases hok : arenaOk l = true
  · have hl := arenaOk_len hok
    refine br_f (by simpa using hok) ?_
    conv => whnf
    refine ⟨_, within_v _ _ _, ?_⟩
    conv => whnf
    by_cases hi : inB i 1 9 = true
    · have hi2 := inB_iff.1 hi
      refine br_f (by simpa using hi) ?_
      conv => whnf
      refine idx_of (show 0 ≤ i by omega) ?_
      conv => whnf
      refine side_lt (show i.toNat < l.length by omega) ?_
      conv => whnf
      by_cases hk0 : (l.getD i.toNat (d0 .obj)).kind = 0
      · have e : freeA l i = (l, false) := by simp only [freeA, hk0]; simp
        rw [e]
        refine br_t (by rw [hk0]; rfl) ?_
        conv => whnf
        repeat (refine ⟨rfl, ?_⟩; conv => whnf)
        exact True.intro
      refine br_f (by simpa using hk0) ?_
      conv => whnf
      refine idx_of (show 0 ≤ i by omega) ?_
      conv => whnf
      refine side_lt (show i.toNat < l.length by omega) ?_
      conv => whnf
      refine idx_of (show 0 ≤ i by omega) ?_
      conv => whnf
      refine side_lt (show i.toNat < l.length by omega) ?_
      conv => whnf
      obtain ⟨X0, hX0⟩ : ∃ X0, X0 = l.set i.toNat { d0 .obj with gen := (l.getD i.toNat (d0 .obj)).gen } := ⟨_, rfl⟩
      have hX0l : X0.length = 10 := by rw [hX0, List.length_set]; exact hl
      have hX0b : lnB 1000000000 X0 := by rw [hX0]; exact lnB_set (fun o ho => (hcp o ho).1) (Nat.zero_le _)
      have e : freeA l i = (freeGo i X0 10, true) := by rw [hX0]; unfold freeA; rw [if_pos (by rw [hok, hi]; simpa using hk0)]
      rw [e]
      refine VW.sub (s' := stV 84 [(1, .av (.one (iV i))), (6, .av (.one (.ref [10011] .obj none)))] [(10011, some (.rows .obj true X0 []))]) rfl ?_ ?_
      · conv => whnf
        repeat (first | (refine ⟨by with_reducible rfl, ?_⟩; conv => whnf) | (refine ⟨(by rw [hX0]; simp only [offN, List.set_set, set_get (show i.toNat < l.length by omega)]; exact congrArg _ (obj_gen _ _)), ?_⟩; conv => whnf) | (refine ⟨rfl, ?_⟩; conv => whnf))
        exact True.intro
      clear e hX0 hb hcp hok hk0
      refine VW.reg tiOk vtOk ?_
      conv => whnf
      refine goV_loop tiOk vtOk [5,11] (fun k : Nat => stV 84 [(1, .av (.one (iV i))), (6, .av (.one (.ref [10011] .obj none))), (39, .av (.one (iV X0.length))), (40, .av (.one (iV k)))] [(10011, some (.rows .obj true (freeGo i X0 k) []))]) (fun k => k ≤ 10 ∧ (freeGo i X0 k).length = 10 ∧ lnB 1000000000 (freeGo i X0 k)) (fun k => 10 - k) 0 ⟨Nat.zero_le _, hX0l, hX0b⟩ rfl ?_ fun k hj => ?_
      · conv => whnf
        repeat (refine ⟨rfl, ?_⟩; conv => whnf)
        exact True.intro
      obtain ⟨hj1, hj2, hj3⟩ := hj
      conv => whnf
      refine br (fun h => ?_) (fun h => ?_)
      · have hk : k < 10 := by simp at h; omega
        have hs := freeGo_succ i X0 k
        generalize freeGo i X0 k = X at *
        have hl2 := freeK_len i X k (by omega)
        have hb2 := lnB_free (i := i) (k := k) hj3
        conv => whnf
        refine side_lt (show k < X.length by omega) ?_
        conv => whnf
        by_cases hz : (X.getD k (d0 .obj)).kind = 0
        · have e : freeK i X k = X := by unfold freeK; rw [if_pos hz]
          rw [e] at hs
          refine br_t (by simpa [offN] using hz) ?_
          conv => whnf
          refine ⟨k + 1, ⟨hk, by rw [hs]; exact hj2, by rw [hs]; exact hj3⟩, by omega, rfl, ?_⟩
          conv => whnf
          repeat (first | (refine ⟨by with_reducible rfl, ?_⟩; conv => whnf) | (refine ⟨congrArg _ (wrap_nat k (by omega)), ?_⟩; conv => whnf) | (refine ⟨hs.symm, ?_⟩; conv => whnf) | (refine ⟨rfl, ?_⟩; conv => whnf))
          exact True.intro
        have e : freeK i X k = offL i k (inK i X k) ((inK i X k).getD k (d0 .obj)).links.length := by unfold freeK; rw [if_neg hz]
        rw [e] at hs
        refine br_f (by simpa [offN] using hz) ?_
        conv => whnf
        refine side_lt (show k < X.length by omega) ?_
        conv => whnf
        have hin : inK i X k = if (X.getD k (d0 .obj)).inn = i then X.set k (Obj.w2 (-1) (X.getD k (d0 .obj))) else X := rfl
        have hYl := inK_len i X k
        have hYb := lnB_in (i := i) (k := k) hj3
        rw [e] at hl2 hb2
        by_cases hq : (X.getD k (d0 .obj)).inn = i
        all_goals
          first | rw [if_pos hq] at hin | rw [if_neg hq] at hin
          first | refine br_t (by simpa [offN] using hq) ?_ | refine br_f (by simpa [offN] using hq) ?_
          conv => whnf
          try (refine side_lt (show k < X.length by omega) ?_; conv => whnf)
          refine VW.sub (s' := stV 84 [(1, .av (.one (iV i))), (6, .av (.one (.ref [10011] .obj none))), (7, .av (.one (iV k))), (39, .av (.one (iV X0.length))), (40, .av (.one (iV k)))] [(10011, some (.rows .obj true (inK i X k) []))]) rfl ?_ ?_
          focus
            conv => whnf
            repeat (first | (refine ⟨by with_reducible rfl, ?_⟩; conv => whnf) | (refine ⟨hin.symm, ?_⟩; conv => whnf) | (refine ⟨rfl, ?_⟩; conv => whnf))
            exact True.intro
          clear hin hq
          generalize inK i X k = Y at *
          have hat := offL_at i k Y (by omega)
          have hbt := lnB_offL (i := i) (k := k) hYb
          refine VW.reg tiOk vtOk ?_
          conv => whnf
          refine side_lt (show k < Y.length by omega) ?_
          conv => whnf
          refine goV_loop tiOk vtOk [5,11] (fun n : Nat => stV 84 [(1, .av (.one (iV i))), (6, .av (.one (.ref [10011] .obj none))), (7, .av (.one (iV k))), (39, .av (.one (iV X0.length))), (40, .av (.one (iV k))), (64, .av (.one (.ref [10011, k, 10] .i64 none))), (65, .av (.one (iV (Y.getD k (d0 .obj)).links.length))), (66, .av (.one (iV n)))] [(10011, some (.rows .obj true (offL i k Y n) []))]) (fun n => n ≤ (Y.getD k (d0 .obj)).links.length) (fun n => (Y.getD k (d0 .obj)).links.length - n) 0 (Nat.zero_le _) rfl ?_ fun n hj => ?_
          focus
            conv => whnf
            repeat (first | (refine side_eq rfl ?_; conv => whnf) | (refine ⟨rfl, ?_⟩; conv => whnf))
            exact True.intro
          have hn1 := offL_succ i k Y n
          obtain ⟨hat1, hat2⟩ := hat n
          have hll := lnB_get (k := k) hYb
          conv => whnf
          refine br (fun h => ?_) (fun h => ?_)
          focus
            have hn : n < (Y.getD k (d0 .obj)).links.length := by simpa using h
            have hc : offI i k (offL i k Y n) n = if ((offL i k Y n).getD k (d0 .obj)).links.getD n (d0 .i64) = i then (offL i k Y n).set k (Obj.w10 (((offL i k Y n).getD k (d0 .obj)).links.set n (-1)) ((offL i k Y n).getD k (d0 .obj))) else offL i k Y n := rfl
            generalize offL i k Y n = Z at *
            have hnl : n < (Z.getD k (d0 .obj)).links.length := by omega
            conv => whnf
            refine side_lt hnl ?_
            conv => whnf
            by_cases hq : (Z.getD k (d0 .obj)).links.getD n (d0 .i64) = i
            focus
              rw [if_pos hq] at hc
              rw [hc] at hn1
              refine br_t (by simpa [offN] using hq) ?_
              conv => whnf
              refine side_lt (show k < Z.length by omega) ?_
              conv => whnf
              refine side_lt hnl ?_
              conv => whnf
              refine ⟨n + 1, hn, by omega, rfl, ?_⟩
              conv => whnf
              repeat (first | (refine ⟨by with_reducible rfl, ?_⟩; conv => whnf) | (refine side_eq rfl ?_; conv => whnf) | (refine ⟨congrArg _ (wrap_nat n (by omega)), ?_⟩; conv => whnf) | (refine ⟨hn1.symm, ?_⟩; conv => whnf) | (refine ⟨rfl, ?_⟩; conv => whnf))
              exact True.intro
            focus
              rw [if_neg hq] at hc
              rw [hc] at hn1
              refine br_f (by simpa [offN] using hq) ?_
              conv => whnf
              refine ⟨n + 1, hn, by omega, rfl, ?_⟩
              conv => whnf
              repeat (first | (refine ⟨by with_reducible rfl, ?_⟩; conv => whnf) | (refine side_eq rfl ?_; conv => whnf) | (refine ⟨congrArg _ (wrap_nat n (by omega)), ?_⟩; conv => whnf) | (refine ⟨hn1.symm, ?_⟩; conv => whnf) | (refine ⟨rfl, ?_⟩; conv => whnf))
              exact True.intro
          focus
            have en : n = (Y.getD k (d0 .obj)).links.length := by simp [offN] at h; simp [offN] at hj; simp; omega
            conv => whnf
            refine ⟨k + 1, ⟨hk, by rw [hs]; omega, by rw [hs]; exact hb2⟩, by omega, rfl, ?_⟩
            rw [hs, ← en]
            conv => whnf
            repeat (first | (refine ⟨by with_reducible rfl, ?_⟩; conv => whnf) | (refine ⟨congrArg _ (wrap_nat k (by omega)), ?_⟩; conv => whnf) | (refine ⟨rfl, ?_⟩; conv => whnf))
            exact True.intro
      · conv => whnf
        have e : k = 10 := by simp at h; omega
        rw [e]
        repeat (refine ⟨rfl, ?_⟩; conv => whnf)
        exact True.intro
    · have e : freeA l i = (l, false) := by simp [freeA, hi]
      rw [e]
      refine br_t (by simpa using hi) ?_
      conv => whnf
      repeat (refine ⟨rfl, ?_⟩; conv => whnf)
      exact True.intro
  · have e : freeA l i = (l, false) := by simp [freeA, hok]
    rw [e]
    refine br_t (by simpa using hok) ?_
    conv => whnf
    repeat (refine ⟨rfl, ?_⟩; conv => whnf)
    exact True.intro

end Go.Proofs.YtiimdlkeikcfiaaGreat.V

namespace Go.Proofs.YtiimdlkeikcfiaaGreat.V
open Go.RowKit M
set_option maxRecDepth 100000
set_option maxHeartbeats 1000000
theorem GcNew_v : VC Tryz.prog 51 [] (.av (.agg [iV 0, iV 0, iV 0, .own .i64 true [0] []])) := by
  refine VC.go tiOk vtOk [] Tryz.func51 rfl rfl ?_
  conv => whnf
  repeat (refine ⟨rfl, ?_⟩; conv => whnf)
  exact True.intro
def heapB (h : Heap) : Prop := h.gc.grey.length ≤ 100000000 ∧ arenaB h.arena
theorem heapOk_arena {h : Heap} (e : heapOk h = true) : arenaOk h.arena = true := by
  simp only [heapOk, Bool.and_eq_true] at e
  exact e.1.1.2
def bornG (h : Heap) (i : Int) : Heap :=
  if heapOk h && (inB i 0 9 && (h.arena.getD i.toNat (d0 .obj)).kind != 0) then { h with arena := h.arena.set i.toNat (Obj.w9 (h.gc.phase == 0 || decide (h.gc.at_ ≤ i)) (h.arena.getD i.toNat (d0 .obj))) } else h
theorem GcBorn_v (H : Heap) (i : Int) (hb : heapB H) : VC Tryz.prog 50 [.agg (heapA2 H), iA i] (.av (.agg (heapR (bornG H i)))) := by
  refine VC.go tiOk vtOk [] Tryz.func50 rfl rfl ?_
  conv => whnf
  refine ⟨_, copyHeap_v H (by have := hb.1; omega) hb.2.1 (arenaB_copy hb.2), ?_⟩
  conv => whnf
  refine ⟨_, HeapOk_v H (by have := hb.1; omega) hb.2, ?_⟩
  conv => whnf
  by_cases hok : heapOk H = true
  · have hl := arenaOk_len (heapOk_arena hok)
    refine br_t hok ?_
    conv => whnf
    refine ⟨_, isSlot_v i, ?_⟩
    conv => whnf
    by_cases hi : inB i 0 9 = true
    · have hi2 := inB_iff.1 hi
      refine br_t hi ?_
      conv => whnf
      refine idx_of hi2.1 ?_
      conv => whnf
      refine side_lt (show i.toNat < H.arena.length by omega) ?_
      conv => whnf
      by_cases hk : (H.arena.getD i.toNat (d0 .obj)).kind = 0
      · have e : bornG H i = H := by simp only [bornG, hk]; simp
        rw [e]
        refine br_f (by rw [hk]; rfl) ?_
        conv => whnf
        repeat (refine ⟨rfl, ?_⟩; conv => whnf)
        exact True.intro
      have e : bornG H i = { H with arena := H.arena.set i.toNat (Obj.w9 (H.gc.phase == 0 || decide (H.gc.at_ ≤ i)) (H.arena.getD i.toNat (d0 .obj))) } := by
        unfold bornG
        rw [if_pos (by rw [hok, hi]; simpa using hk)]
      rw [e]
      refine br_t (by simpa using hk) ?_
      conv => whnf
      repeat' (first | (refine idx_of hi2.1 ?_; conv => whnf) | (refine side_lt (show i.toNat < H.arena.length by omega) ?_; conv => whnf) | (refine side_le (by (simp [lenW, winL]; omega)) ?_; conv => whnf) | (refine br (fun h => ?_) (fun h => ?_) <;> conv => whnf))
      all_goals
        have hp := h
        first
          | (have e1 : (H.gc.phase == 0 || decide (H.gc.at_ ≤ i)) = true := by (rw [hp]; rfl)
             rw [e1])
          | (have e1 : (H.gc.phase == 0 || decide (H.gc.at_ ≤ i)) = decide (H.gc.at_ ≤ i) := by (rw [hp]; rfl)
             rw [e1])
        repeat (refine ⟨rfl, ?_⟩; conv => whnf)
        exact True.intro
    · have e : bornG H i = H := by simp [bornG, hi]
      rw [e]
      refine br_f (by simpa using hi) ?_
      conv => whnf
      repeat (refine ⟨rfl, ?_⟩; conv => whnf)
      exact True.intro
  · have e : bornG H i = H := by simp [bornG, hok]
    rw [e]
    refine br_f (by simpa using hok) ?_
    conv => whnf
    repeat (refine ⟨rfl, ?_⟩; conv => whnf)
    exact True.intro
def shadeG (h : Heap) (i : Int) : Heap :=
  if h.gc.phase != 0 || ((h.arena.getD i.toNat (d0 .obj)).kind == 0 || (h.arena.getD i.toNat (d0 .obj)).mark) then h else
    ⟨h.arena.set i.toNat (Obj.w9 true (h.arena.getD i.toNat (d0 .obj))), { h.gc with grey := if h.gc.grey.contains i then h.gc.grey else h.gc.grey ++ [i] }⟩
theorem shade_v (H : Heap) (i : Int) (hg : H.gc.grey.length ≤ 500000000) (h0 : 0 ≤ i) (h1 : i.toNat < H.arena.length) : VP Tryz.prog 114 (heapR H) [iA i] (heapR (shadeG H i)) (.tup []) := by
  have hs : shadeG H i = if H.gc.phase != 0 || ((H.arena.getD i.toNat (d0 .obj)).kind == 0 || (H.arena.getD i.toNat (d0 .obj)).mark) then H else
    ⟨H.arena.set i.toNat (Obj.w9 true (H.arena.getD i.toNat (d0 .obj))), { H.gc with grey := if H.gc.grey.contains i then H.gc.grey else H.gc.grey ++ [i] }⟩ := rfl
  by_cases hc : (H.gc.phase != 0 || ((H.arena.getD i.toNat (d0 .obj)).kind == 0 || (H.arena.getD i.toNat (d0 .obj)).mark)) = true
  · rw [if_pos hc] at hs
    rw [hs]
    refine VP.go tiOk vtOk [] Tryz.func114 rfl rfl rfl rfl rfl rfl ?_
    conv => whnf
    repeat' (first | (refine idx_of h0 ?_; conv => whnf) | (refine side_lt h1 ?_; conv => whnf) | (refine ⟨_, contains_v H.gc.grey i (by omega), ?_⟩; conv => whnf) | (refine side_le (by (simp [lenW, winL]; omega)) ?_; conv => whnf) | (refine br (fun h => ?_) (fun h => ?_) <;> conv => whnf))
    all_goals first
      | (exfalso; clear hs hg h1 h0; simp_all [offN]; done)
      | ((repeat (refine ⟨rfl, ?_⟩; conv => whnf)); exact True.intro)
  · rw [if_neg hc] at hs
    by_cases hm : H.gc.grey.contains i = true
    · rw [if_pos hm] at hs
      rw [hs]
      refine VP.go tiOk vtOk [] Tryz.func114 rfl rfl rfl rfl rfl rfl ?_
      conv => whnf
      repeat' (first | (refine idx_of h0 ?_; conv => whnf) | (refine side_lt h1 ?_; conv => whnf) | (refine ⟨_, contains_v H.gc.grey i (by omega), ?_⟩; conv => whnf) | (refine side_le (by (simp [lenW, winL]; omega)) ?_; conv => whnf) | (refine br (fun h => ?_) (fun h => ?_) <;> conv => whnf))
      all_goals first
        | (exfalso; clear hs hg h1 h0; simp_all [offN]; done)
        | ((repeat (refine ⟨rfl, ?_⟩; conv => whnf)); exact True.intro)
    · rw [if_neg hm] at hs
      rw [hs]
      refine VP.go tiOk vtOk [] Tryz.func114 rfl rfl rfl rfl rfl rfl ?_
      conv => whnf
      repeat' (first | (refine idx_of h0 ?_; conv => whnf) | (refine side_lt h1 ?_; conv => whnf) | (refine ⟨_, contains_v H.gc.grey i (by omega), ?_⟩; conv => whnf) | (refine side_le (by (simp [lenW, winL]; omega)) ?_; conv => whnf) | (refine br (fun h => ?_) (fun h => ?_) <;> conv => whnf))
      all_goals first
        | (exfalso; clear hs hg h1 h0; simp_all [offN]; done)
        | ((repeat (refine ⟨rfl, ?_⟩; conv => whnf)); exact True.intro)
def shadeIf (h : Heap) (i : Int) : Heap := if heapOk h && inB i 0 9 then shadeG h i else h
theorem GcShade_v (h : Heap) (i : Int) (hb : heapB h) : VC Tryz.prog 136 [.agg (heapA2 h), iA i] (.av (.agg (heapR (shadeIf h i)))) := by
  refine VC.go tiOk vtOk [3] Tryz.func136 rfl rfl ?_
  conv => whnf
  refine ⟨_, copyHeap_v h (by have := hb.1; omega) hb.2.1 (arenaB_copy hb.2), ?_⟩
  conv => whnf
  refine ⟨_, HeapOk_v h (by have := hb.1; omega) hb.2, ?_⟩
  conv => whnf
  by_cases hok : heapOk h = true
  · have hl := arenaOk_len (heapOk_arena hok)
    refine br_t hok ?_
    conv => whnf
    refine ⟨_, isSlot_v i, ?_⟩
    conv => whnf
    by_cases hi : inB i 0 9 = true
    · have hi2 := inB_iff.1 hi
      have e : shadeIf h i = shadeG h i := by simp [shadeIf, hok, hi]
      rw [e]
      refine br_t hi ?_
      conv => whnf
      refine VW.call tiOk vtOk true 1 ?_
      conv => whnf
      refine ⟨_, _, shade_v h i (by have := hb.1; omega) hi2.1 (by omega), ?_⟩
      conv => whnf
      repeat (refine ⟨rfl, ?_⟩; conv => whnf)
      exact True.intro
    · have e : shadeIf h i = h := by simp [shadeIf, hi]
      rw [e]
      refine br_f (by simpa using hi) ?_
      conv => whnf
      repeat (refine ⟨rfl, ?_⟩; conv => whnf)
      exact True.intro
  · have e : shadeIf h i = h := by simp [shadeIf, hok]
    rw [e]
    refine br_f (by simpa using hok) ?_
    conv => whnf
    repeat (refine ⟨rfl, ?_⟩; conv => whnf)
    exact True.intro

end Go.Proofs.YtiimdlkeikcfiaaGreat.V

namespace Go.Proofs.YtiimdlkeikcfiaaGreat.V
open Go.RowKit M
set_option maxRecDepth 100000
set_option maxHeartbeats 1000000
theorem freeGo_len {i : Int} {X : List Obj} : ∀ n, n ≤ X.length → (freeGo i X n).length = X.length
  | 0, _ => rfl
  | n + 1, h => by
    rw [freeGo_succ, freeK_len _ _ _ (by rw [freeGo_len n (by omega)]; omega)]
    exact freeGo_len n (by omega)
theorem freeA_len {l : List Obj} {i : Int} : (freeA l i).1.length = l.length := by
  unfold freeA
  split
  · rename_i h
    rw [Bool.and_eq_true] at h
    have hl := arenaOk_len h.1
    rw [freeGo_len 10 (by simp only [List.length_set]; omega), List.length_set]
  · rfl
def sweepO (h : Heap) (now : Int) : Bool := h.gc.at_ != 0 && ((h.arena.getD h.gc.at_.toNat (d0 .obj)).kind != 0 && (expired (h.arena.getD h.gc.at_.toNat (d0 .obj)) now || !(h.arena.getD h.gc.at_.toNat (d0 .obj)).mark))
def sweepA (h : Heap) (now : Int) : List Obj := if sweepO h now then (freeA h.arena h.gc.at_).1 else h.arena.set h.gc.at_.toNat (Obj.w9 false (h.arena.getD h.gc.at_.toNat (d0 .obj)))
def sweepE (h : Heap) (A : List Obj) : Heap := if h.gc.at_ + 1 = 10 then ⟨A.set 0 (Obj.w9 true (A.getD 0 (d0 .obj))), ⟨0, 0, min (h.gc.round + 1) 1000000, [0]⟩⟩ else ⟨A, { h.gc with at_ := h.gc.at_ + 1 }⟩
def sweepG (h : Heap) (now : Int) : Heap × Int := (sweepE h (sweepA h now), if sweepO h now then h.gc.at_ else -1)
theorem sweepStep_v (H : Heap) (now : Int) (hb : heapB H) (ha : arenaOk H.arena = true) (h0 : 0 ≤ H.gc.at_ ∧ H.gc.at_ ≤ 9) (hr : 0 ≤ H.gc.round ∧ H.gc.round ≤ 1000000) : VG Tryz.prog 111 [.agg (heapR H), iA now] (.tup [.agg (heapR (sweepG H now).1), iA (sweepG H now).2]) := by
  have hl := arenaOk_len ha
  have h1 : H.gc.at_.toNat < H.arena.length := by omega
  by_cases hs : sweepO H now = true
  · have eG : sweepG H now = (sweepE H (freeA H.arena H.gc.at_).1, H.gc.at_) := by simp [sweepG, sweepA, hs]
    rw [eG]
    have hA : (freeA H.arena H.gc.at_).1.length = 10 := by rw [freeA_len]; exact hl
    refine VG.go tiOk vtOk [8] Tryz.func111 rfl rfl rfl rfl rfl rfl ?_
    conv => whnf
    repeat' (first | (refine idx_of h0.1 ?_; conv => whnf) | (refine side_lt h1 ?_; conv => whnf) | (refine ⟨_, Expired_v _ now, ?_⟩; conv => whnf) | (refine ⟨_, ArenaFree_v H.arena H.gc.at_ hb.2, ?_⟩; conv => whnf) | (refine side_le (by (simp [lenW, winL]; omega)) ?_; conv => whnf) | (refine br (fun h => ?_) (fun h => ?_) <;> conv => whnf))
    all_goals first
      | (exfalso; clear eG hA h0 hr hb ha hl h1; simp_all [sweepO, offN]; done)
      | skip
    all_goals
      generalize hAe : (freeA H.arena H.gc.at_).1 = A at *
      refine VW.sub (s' := stV 72 [(2, .av (.one (.ptr [2] 0 0))), (4, .av (.one (.ptr [4] 0 0))), (8, .av (iA H.gc.at_))] [(2, some (.box [.own .obj true A [], iV H.gc.phase, iV H.gc.at_, iV H.gc.round, .own .i64 true H.gc.grey []])), (4, some (.box [.sc (.slice none 0 0), iV 0, iV 0, iV 0, .sc (.slice none 0 0)]))]) rfl ?_ ?_
      · conv => whnf
        repeat (first | (refine ⟨by with_reducible rfl, ?_⟩; conv => whnf) | (refine ⟨hAe, ?_⟩; conv => whnf) | (refine ⟨rfl, ?_⟩; conv => whnf))
        exact True.intro
      refine VW.reg tiOk vtOk ?_
      conv => whnf
      have e1 : IntKind.i64.wrap (H.gc.at_ + 1) = H.gc.at_ + 1 := wrap_in (by omega)
      have e2 : IntKind.i64.wrap (H.gc.round + 1) = H.gc.round + 1 := wrap_in (by omega)
      have e3 : (if 1000000 < IntKind.i64.wrap (H.gc.round + 1) then 1000000 else IntKind.i64.wrap (H.gc.round + 1)) = min (H.gc.round + 1) 1000000 := by rw [e2]; split <;> omega
      have hA0 : 0 < A.length := by omega
      by_cases h10 : H.gc.at_ + 1 = 10
      · have eS : sweepE H A = ⟨A.set 0 (Obj.w9 true (A.getD 0 (d0 .obj))), ⟨0, 0, min (H.gc.round + 1) 1000000, [0]⟩⟩ := if_pos h10
        rw [eS]
        refine br_t (by rw [e1, h10]; rfl) ?_
        conv => whnf
        repeat' (first | (refine side_lt hA0 ?_; conv => whnf) | (refine side_le (by (simp [lenW, winL]; omega)) ?_; conv => whnf) | (refine br (fun h => ?_) (fun h => ?_) <;> conv => whnf))
        conv => whnf
        repeat (first | (refine ⟨by with_reducible rfl, ?_⟩; conv => whnf) | (refine ⟨congrArg _ e3, ?_⟩; conv => whnf) | (refine ⟨rfl, ?_⟩; conv => whnf))
        exact True.intro
      · have eS : sweepE H A = ⟨A, { H.gc with at_ := H.gc.at_ + 1 }⟩ := if_neg h10
        rw [eS]
        refine br_f (by rw [e1]; simpa using h10) ?_
        conv => whnf
        conv => whnf
        repeat (first | (refine ⟨by with_reducible rfl, ?_⟩; conv => whnf) | (refine ⟨congrArg _ e1, ?_⟩; conv => whnf) | (refine ⟨rfl, ?_⟩; conv => whnf))
        exact True.intro
  · have eG : sweepG H now = (sweepE H (H.arena.set H.gc.at_.toNat (Obj.w9 false (H.arena.getD H.gc.at_.toNat (d0 .obj)))), -1) := by simp [sweepG, sweepA, hs]
    rw [eG]
    have hA : (H.arena.set H.gc.at_.toNat (Obj.w9 false (H.arena.getD H.gc.at_.toNat (d0 .obj)))).length = 10 := by rw [List.length_set]; exact hl
    refine VG.go tiOk vtOk [8] Tryz.func111 rfl rfl rfl rfl rfl rfl ?_
    conv => whnf
    repeat' (first | (refine idx_of h0.1 ?_; conv => whnf) | (refine side_lt h1 ?_; conv => whnf) | (refine ⟨_, Expired_v _ now, ?_⟩; conv => whnf) | (refine ⟨_, ArenaFree_v H.arena H.gc.at_ hb.2, ?_⟩; conv => whnf) | (refine side_le (by (simp [lenW, winL]; omega)) ?_; conv => whnf) | (refine br (fun h => ?_) (fun h => ?_) <;> conv => whnf))
    all_goals first
      | (exfalso; clear eG hA h0 hr hb ha hl h1; simp_all [sweepO, offN]; done)
      | skip
    all_goals
      generalize hAe : H.arena.set H.gc.at_.toNat (Obj.w9 false (H.arena.getD H.gc.at_.toNat (d0 .obj))) = A at *
      refine VW.sub (s' := stV 72 [(2, .av (.one (.ptr [2] 0 0))), (4, .av (.one (.ptr [4] 0 0))), (8, .av (iA (-1)))] [(2, some (.box [.own .obj true A [], iV H.gc.phase, iV H.gc.at_, iV H.gc.round, .own .i64 true H.gc.grey []])), (4, some (.box [.sc (.slice none 0 0), iV 0, iV 0, iV 0, .sc (.slice none 0 0)]))]) rfl ?_ ?_
      · conv => whnf
        repeat (first | (refine ⟨by with_reducible rfl, ?_⟩; conv => whnf) | (refine ⟨hAe, ?_⟩; conv => whnf) | (refine ⟨rfl, ?_⟩; conv => whnf))
        exact True.intro
      refine VW.reg tiOk vtOk ?_
      conv => whnf
      have e1 : IntKind.i64.wrap (H.gc.at_ + 1) = H.gc.at_ + 1 := wrap_in (by omega)
      have e2 : IntKind.i64.wrap (H.gc.round + 1) = H.gc.round + 1 := wrap_in (by omega)
      have e3 : (if 1000000 < IntKind.i64.wrap (H.gc.round + 1) then 1000000 else IntKind.i64.wrap (H.gc.round + 1)) = min (H.gc.round + 1) 1000000 := by rw [e2]; split <;> omega
      have hA0 : 0 < A.length := by omega
      by_cases h10 : H.gc.at_ + 1 = 10
      · have eS : sweepE H A = ⟨A.set 0 (Obj.w9 true (A.getD 0 (d0 .obj))), ⟨0, 0, min (H.gc.round + 1) 1000000, [0]⟩⟩ := if_pos h10
        rw [eS]
        refine br_t (by rw [e1, h10]; rfl) ?_
        conv => whnf
        repeat' (first | (refine side_lt hA0 ?_; conv => whnf) | (refine side_le (by (simp [lenW, winL]; omega)) ?_; conv => whnf) | (refine br (fun h => ?_) (fun h => ?_) <;> conv => whnf))
        conv => whnf
        repeat (first | (refine ⟨by with_reducible rfl, ?_⟩; conv => whnf) | (refine ⟨congrArg _ e3, ?_⟩; conv => whnf) | (refine ⟨rfl, ?_⟩; conv => whnf))
        exact True.intro
      · have eS : sweepE H A = ⟨A, { H.gc with at_ := H.gc.at_ + 1 }⟩ := if_neg h10
        rw [eS]
        refine br_f (by rw [e1]; simpa using h10) ?_
        conv => whnf
        conv => whnf
        repeat (first | (refine ⟨by with_reducible rfl, ?_⟩; conv => whnf) | (refine ⟨congrArg _ e1, ?_⟩; conv => whnf) | (refine ⟨rfl, ?_⟩; conv => whnf))
        exact True.intro
def markG (H : Heap) (now : Int) (X : Heap) (k : Int) : Heap := if expired (H.arena.getD k.toNat (d0 .obj)) now then X else shadeG X k
def gcMark (H : Heap) (i : Int) : Heap := ⟨H.arena.set i.toNat (Obj.w9 true (H.arena.getD i.toNat (d0 .obj))), { H.gc with grey := H.gc.grey.take (H.gc.grey.length - 1) }⟩
def gcStepG (H : Heap) (now : Int) : Heap × Int :=
  if heapOk H then
    if H.gc.phase == 1 then sweepG H now
    else if H.gc.grey.length == 0 then (⟨H.arena, { H.gc with phase := 1, at_ := 0 }⟩, -1)
    else if (H.gc.grey.getD (H.gc.grey.length - 1) 0 != 0 && expired (H.arena.getD (H.gc.grey.getD (H.gc.grey.length - 1) 0).toNat (d0 .obj)) now) then (⟨H.arena, { H.gc with grey := H.gc.grey.take (H.gc.grey.length - 1) }⟩, -1)
    else ((edgesN H.arena (H.gc.grey.getD (H.gc.grey.length - 1) 0) H.arena.length).foldl (markG H now) (gcMark H (H.gc.grey.getD (H.gc.grey.length - 1) 0)), -1)
  else (H, -1)
theorem heapOk_at {h : Heap} (e : heapOk h = true) : (h.gc.phase = 1 → 0 ≤ h.gc.at_ ∧ h.gc.at_ ≤ 9) ∧ (0 ≤ h.gc.round ∧ h.gc.round ≤ 1000000) ∧ ∀ k, k < h.gc.grey.length → 0 ≤ h.gc.grey.getD k 0 ∧ h.gc.grey.getD k 0 ≤ 9 := by
  simp only [heapOk, Bool.and_eq_true] at e
  refine ⟨fun hp => ?_, inB_iff.1 e.2, fun k hk => ?_⟩
  · have := e.1.2
    rw [hp] at this
    simp only [Bool.or_eq_true, Bool.and_eq_true, decide_eq_true_eq] at this
    rcases this with h | h
    · exact absurd h.1 (by decide)
    · exact inB_iff.1 h.1.2
  · have := List.all_eq_true.1 e.1.1.1 k (List.mem_range.2 hk)
    have := (Bool.and_eq_true _ _ ▸ this : _ ∧ _).1
    exact inB_iff.1 this
theorem gcMark_len {H : Heap} {i : Int} : (gcMark H i).arena.length = H.arena.length ∧ (gcMark H i).gc.grey.length ≤ H.gc.grey.length := by
  refine ⟨List.length_set, ?_⟩
  show (List.take _ _).length ≤ _
  rw [List.length_take]; omega
theorem shadeG_len {X : Heap} {k : Int} : (shadeG X k).arena.length = X.arena.length ∧ (shadeG X k).gc.grey.length ≤ X.gc.grey.length + 1 := by
  unfold shadeG
  split
  · exact ⟨rfl, by omega⟩
  · refine ⟨List.length_set, ?_⟩
    show (if _ then _ else _ : List Int).length ≤ _
    split <;> simp
theorem markG_len {H X : Heap} {now k : Int} : (markG H now X k).arena.length = X.arena.length ∧ (markG H now X k).gc.grey.length ≤ X.gc.grey.length + 1 := by
  unfold markG
  split
  · exact ⟨rfl, by omega⟩
  · exact shadeG_len
theorem fold_len {H : Heap} {now : Int} : ∀ (es : List Int) (X : Heap), (es.foldl (markG H now) X).arena.length = X.arena.length ∧ (es.foldl (markG H now) X).gc.grey.length ≤ X.gc.grey.length + es.length
  | [], X => ⟨rfl, by simp⟩
  | e :: es, X => by
    have h1 := fold_len (H := H) (now := now) es (markG H now X e)
    have h2 := markG_len (H := H) (X := X) (now := now) (k := e)
    refine ⟨h1.1.trans h2.1, ?_⟩
    simp only [List.foldl_cons, List.length_cons]
    omega
theorem GcStep_v (H : Heap) (now : Int) (hb : heapB H) : VC Tryz.prog 74 [.agg (heapA2 H), iA now] (.tup [.agg (heapR (gcStepG H now).1), iA (gcStepG H now).2]) := by
  refine VC.go tiOk vtOk [5,10,11,19] Tryz.func74 rfl rfl ?_
  conv => whnf
  refine ⟨_, copyHeap_v H (by have := hb.1; omega) hb.2.1 (arenaB_copy hb.2), ?_⟩
  conv => whnf
  refine ⟨_, HeapOk_v H (by have := hb.1; omega) hb.2, ?_⟩
  conv => whnf
  by_cases hok : heapOk H = true
  · have hl := arenaOk_len (heapOk_arena hok)
    refine br_f (by rw [hok]; rfl) ?_
    conv => whnf
    by_cases hp : H.gc.phase = 1
    · have e : gcStepG H now = sweepG H now := by simp [gcStepG, hok, hp]
      rw [e]
      refine br_t (by rw [hp]; rfl) ?_
      conv => whnf
      refine VW.call tiOk vtOk false 2 ?_
      conv => whnf
      refine ⟨_, sweepStep_v H now hb (heapOk_arena hok) ((heapOk_at hok).1 hp) (heapOk_at hok).2.1, ?_⟩
      conv => whnf
      conv => whnf
      repeat (first | (refine ⟨by with_reducible rfl, ?_⟩; conv => whnf) | (refine ⟨rfl, ?_⟩; conv => whnf))
      exact True.intro
    · refine br_f (by simpa using hp) ?_
      conv => whnf
      by_cases hg : H.gc.grey.length = 0
      · have e : gcStepG H now = (⟨H.arena, { H.gc with phase := 1, at_ := 0 }⟩, -1) := by simp [gcStepG, hok, hp, hg]
        rw [e]
        refine br_t (by rw [hg]; rfl) ?_
        conv => whnf
        conv => whnf
        repeat (first | (refine ⟨by with_reducible rfl, ?_⟩; conv => whnf) | (refine ⟨rfl, ?_⟩; conv => whnf))
        exact True.intro
      · have hg1 := hb.1
        have e1 : IntKind.i64.wrap ((H.gc.grey.length : Int) - 1) = ((H.gc.grey.length - 1 : Nat) : Int) := by rw [wrap_in (by omega)]; omega
        have hgl : H.gc.grey.length - 1 < H.gc.grey.length := by omega
        have hi := (heapOk_at hok).2.2 _ hgl
        have eG : gcStepG H now = if (H.gc.grey.getD (H.gc.grey.length - 1) 0 != 0 && expired (H.arena.getD (H.gc.grey.getD (H.gc.grey.length - 1) 0).toNat (d0 .obj)) now) then (⟨H.arena, { H.gc with grey := H.gc.grey.take (H.gc.grey.length - 1) }⟩, -1) else ((edgesN H.arena (H.gc.grey.getD (H.gc.grey.length - 1) 0) H.arena.length).foldl (markG H now) (gcMark H (H.gc.grey.getD (H.gc.grey.length - 1) 0)), -1) := by simp [gcStepG, hok, hp, hg]
        refine br_f (by simpa using hg) ?_
        conv => whnf
        refine VW.sub (s' := stV 95 [(1, .av (iA now)), (2, .av (.one (.ptr [2] 0 0))), (4, .av (.one (.ptr [4] 0 0))), (6, .av (.one (.ptr [6] 0 0))), (7, .av (.one (iV ((H.gc.grey.length - 1 : Nat) : Int))))] [(2, some (.box (heapA2 H))), (4, some (.box [.sc (.slice none 0 0), iV 0, iV 0, iV 0, .sc (.slice none 0 0)])), (6, some (.box (heapR H)))]) rfl ?_ ?_
        · conv => whnf
          repeat (first | (refine ⟨by with_reducible rfl, ?_⟩; conv => whnf) | (refine ⟨congrArg _ e1, ?_⟩; conv => whnf) | (refine ⟨rfl, ?_⟩; conv => whnf))
          exact True.intro
        refine VW.reg tiOk vtOk ?_
        conv => whnf
        refine side_lt hgl ?_
        conv => whnf
        generalize hie : H.gc.grey.getD (H.gc.grey.length - 1) 0 = i at hi eG
        refine VW.expl 6 4 77777 ?_
        conv => whnf
        refine side_lt (show 0 < H.gc.grey.length by omega) ?_
        conv => whnf
        refine VW.reg tiOk vtOk ?_
        conv => whnf
        refine side_le (show H.gc.grey.length - 1 ≤ H.gc.grey.length by omega) ?_
        conv => whnf
        have hil : i.toNat < H.arena.length := by omega
        by_cases hx : (i != 0 && expired (H.arena.getD i.toNat (d0 .obj)) now) = true
        · rw [if_pos hx] at eG
          rw [eG]
          repeat' (first | (refine idx_of hi.1 ?_; conv => whnf) | (refine side_lt hil ?_; conv => whnf) | (refine ⟨_, Expired_v _ now, ?_⟩; conv => whnf) | (refine side_le (by (simp [lenW, winL]; omega)) ?_; conv => whnf) | (refine br (fun h => ?_) (fun h => ?_) <;> conv => whnf))
          all_goals first
            | (exfalso; clear eG hi hie e1 hgl hb hil hl hok; simp_all [offN]; done)
            | skip
          conv => whnf
          repeat (first | (refine ⟨by with_reducible rfl, ?_⟩; conv => whnf) | (refine ⟨rfl, ?_⟩; conv => whnf))
          exact True.intro
        · rw [if_neg hx] at eG
          rw [eG]
          repeat' (first | (refine idx_of hi.1 ?_; conv => whnf) | (refine side_lt hil ?_; conv => whnf) | (refine ⟨_, Expired_v _ now, ?_⟩; conv => whnf) | (refine side_le (by (simp [lenW, winL]; omega)) ?_; conv => whnf) | (refine br (fun h => ?_) (fun h => ?_) <;> conv => whnf))
          all_goals first
            | (exfalso; clear eG hi hie e1 hgl hb hil hl hok; simp_all [offN]; done)
            | skip
          all_goals
            refine ⟨_, edgesOf_v H.arena i hb.2 hi.1 hil, ?_⟩
            conv => whnf
            have hm := gcMark_len (H := H) (i := i)
            have hel := edgesN_len H.arena i H.arena.length
            have hem : ∀ k, k ∈ edgesN H.arena i H.arena.length → 0 ≤ k ∧ k < (H.arena.length : Int) := fun k hk => edgesN_mem hk
            generalize hes : edgesN H.arena i H.arena.length = es at hel hem eG
            have hX : ∀ n, ((es.take n).foldl (markG H now) (gcMark H i)).arena.length = 10 ∧ ((es.take n).foldl (markG H now) (gcMark H i)).gc.grey.length ≤ 100000020 := fun n => by
              have h1 := fold_len (H := H) (now := now) (es.take n) (gcMark H i)
              have h2 : (es.take n).length ≤ es.length := by rw [List.length_take]; omega
              omega
            refine goV_loop tiOk vtOk [19] (fun k : Nat => stV 95 [(1, .av (iA now)), (2, .av (.one (.ptr [2] 0 0))), (4, .av (.one (.ptr [4] 0 0))), (6, .av (.one (.ptr [6] 0 0))), (77, .av (.one (.ref [10077] .i64 none))), (78, .av (.one (iV es.length))), (79, .av (.one (iV k)))] [(2, some (.box (heapA2 H))), (4, some (.box [.sc (.slice none 0 0), iV 0, iV 0, iV 0, .sc (.slice none 0 0)])), (6, some (.box (heapR ((es.take k).foldl (markG H now) (gcMark H i))))), (10077, some (.rows .i64 true es []))]) (fun k => k ≤ es.length) (fun k => es.length - k) 0 (Nat.zero_le _) rfl ?_ fun k hj => ?_
            · conv => whnf
              repeat (first | (refine ⟨by with_reducible rfl, ?_⟩; conv => whnf) | (refine ⟨rfl, ?_⟩; conv => whnf))
              exact True.intro
            conv => whnf
            refine br (fun h => ?_) (fun h => ?_)
            · have hk : k < es.length := by simpa using h
              have hkm := hem _ (getD_mem (d := (0 : Int)) hk)
              have hstep := foldl_take (markG H now) (gcMark H i) es k (0 : Int) hk
              have hXk := hX k
              generalize (es.take k).foldl (markG H now) (gcMark H i) = X at hXk hstep
              generalize hkk : es.getD k (0 : Int) = kk at hkm hstep
              have hkl : kk.toNat < H.arena.length := by omega
              conv => whnf
              refine side_lt hk ?_
              conv => whnf
              have hkk' : es.getD (offW none k) (d0 .i64) = kk := hkk
              rw [hkk']
              refine idx_of hkm.1 ?_
              conv => whnf
              refine side_lt hkl ?_
              conv => whnf
              refine ⟨_, Expired_v _ now, ?_⟩
              conv => whnf
              by_cases hex : expired (H.arena.getD kk.toNat (d0 .obj)) now = true
              · have e2 : markG H now X kk = X := if_pos hex
                rw [e2] at hstep
                refine br_f (by rw [show expired (H.arena.getD kk.toNat (d0 .obj)) now = true from hex]; rfl) ?_
                conv => whnf
                refine ⟨k + 1, hk, by omega, rfl, ?_⟩
                rw [hstep]
                conv => whnf
                repeat (first | (refine ⟨by with_reducible rfl, ?_⟩; conv => whnf) | (refine ⟨congrArg _ (wrap_nat k (by omega)), ?_⟩; conv => whnf) | (refine ⟨rfl, ?_⟩; conv => whnf))
                exact True.intro
              · have e2 : markG H now X kk = shadeG X kk := if_neg hex
                rw [e2] at hstep
                refine br_t (by simpa [offN] using hex) ?_
                conv => whnf
                refine VW.call tiOk vtOk true 1 ?_
                conv => whnf
                refine ⟨_, _, shade_v X kk (by omega) hkm.1 (by omega), ?_⟩
                conv => whnf
                refine ⟨k + 1, hk, by omega, rfl, ?_⟩
                rw [hstep]
                conv => whnf
                repeat (first | (refine ⟨by with_reducible rfl, ?_⟩; conv => whnf) | (refine ⟨congrArg _ (wrap_nat k (by omega)), ?_⟩; conv => whnf) | (refine ⟨rfl, ?_⟩; conv => whnf))
                exact True.intro
            · conv => whnf
              have e : k = es.length := by simp at h; omega
              subst e
              rw [List.take_length]
              conv => whnf
              repeat (first | (refine ⟨by with_reducible rfl, ?_⟩; conv => whnf) | (refine ⟨rfl, ?_⟩; conv => whnf))
              exact True.intro
  · have e : gcStepG H now = (H, -1) := by simp [gcStepG, hok]
    rw [e]
    refine br_t (by simpa using hok) ?_
    conv => whnf
    conv => whnf
    repeat (first | (refine ⟨by with_reducible rfl, ?_⟩; conv => whnf) | (refine ⟨rfl, ?_⟩; conv => whnf))
    exact True.intro

end Go.Proofs.YtiimdlkeikcfiaaGreat.V

namespace Go.Proofs.YtiimdlkeikcfiaaGreat.V
open Go.RowKit M
set_option maxRecDepth 100000
set_option maxHeartbeats 1000000
def treeNew (a : Amt) : List Res := [⟨true, -1, a⟩, d0 .res, d0 .res, d0 .res, d0 .res]
theorem TreeNew_v (a : Amt) (ht : treeOk (treeNew a) = true) : VC Tryz.prog 45 [amtA a] (.tup [.one (.own .res true (treeNew a) []), .one (bV true)]) := by
  refine VC.go tiOk vtOk [3] Tryz.func45 rfl rfl ?_
  conv => whnf
  refine VW.sub (s' := stV 14 [(4, .av (.one (.ref [5] .res none)))] [(5, some (.rows .res true (treeNew a) []))]) rfl ?_ ?_
  · conv => whnf
    repeat (first | (refine ⟨by with_reducible rfl, ?_⟩; conv => whnf) | (refine ⟨rfl, ?_⟩; conv => whnf))
    exact True.intro
  refine VW.reg tiOk vtOk ?_
  conv => whnf
  refine ⟨_, TreeOk_v (treeNew a) (show 5 ≤ 1000000000 by decide), ?_⟩
  conv => whnf
  refine br_f (by rw [ht]; rfl) ?_
  conv => whnf
  conv => whnf
  repeat (first | (refine ⟨by with_reducible rfl, ?_⟩; conv => whnf) | (refine ⟨rfl, ?_⟩; conv => whnf))
  exact True.intro
def gcNew : Gc := ⟨0, 0, 0, [0]⟩
def thr1 : Obj := { d0 .obj with kind := 4, til := 1000000, links := [-1, -1] }
theorem put1 : (putA newArena thr1).1 = { d0 .obj with kind := 1, inn := -1, til := 1000000, links := [-1, -1] } :: { d0 .obj with gen := 1, kind := 4, til := 1000000, links := [-1, -1] } :: List.replicate 8 (d0 .obj) ∧ (putA newArena thr1).2 = 1 := by decide +kernel
theorem lit_all {p : Obj → Prop} (h0 : p { d0 .obj with kind := 1, inn := -1, til := 1000000, links := [-1, -1] }) (h1 : p { d0 .obj with gen := 1, kind := 4, til := 1000000, links := [-1, -1] }) (h2 : p (d0 .obj)) : ∀ o ∈ (putA newArena thr1).1, p o := by
  rw [put1.1]
  intro o ho
  rcases List.mem_cons.1 ho with rfl | ho
  · exact h0
  rcases List.mem_cons.1 ho with rfl | ho
  · exact h1
  rw [List.eq_of_mem_replicate ho]
  exact h2
def partNew (b : Boot) : Part := ⟨b.label, b.own, treeNew b.amt, bornG ⟨(putA newArena thr1).1, gcNew⟩ (putA newArena thr1).2, [], 0, 0, ⟨0, 0, 0⟩, 0, 0⟩
def bootGood (b : Boot) : Bool := treeOk (treeNew b.amt) && (labelOk b.label && ownOk b.own)
theorem PartNew_v (b : Boot) (h1 : b.label.length ≤ 1000000000) (h2 : b.own.length ≤ 1000000000) (hg : bootGood b = true) : VC Tryz.prog 19 [.agg [.ro .i64 b.label, .ro .i64 b.own, iV b.amt.pages, iV b.amt.rent, iV b.amt.cpu]] (.tup [.agg (partR (partNew b)), .one (bV true)]) := by
  simp only [bootGood, Bool.and_eq_true] at hg
  have hp : arenaB (putA newArena thr1).1 := ⟨by rw [put1.1]; decide, lit_all ⟨⟨by decide, by decide, by decide⟩, by decide, by decide⟩ ⟨⟨by decide, by decide, by decide⟩, by decide, by decide⟩ ⟨⟨by decide, by decide, by decide⟩, by decide, by decide⟩⟩
  have hn : arenaB newArena := ⟨by decide, fun o ho => by
    rcases List.mem_cons.1 ho with rfl | ho
    · exact ⟨⟨by decide, by decide, by decide⟩, by decide, by decide⟩
    rw [List.eq_of_mem_replicate ho]
    exact ⟨⟨by decide, by decide, by decide⟩, by decide, by decide⟩⟩
  have e := put1.2
  refine VC.go tiOk vtOk [] Tryz.func19 rfl rfl ?_
  conv => whnf
  refine ⟨_, TreeNew_v b.amt hg.1, ?_⟩
  conv => whnf
  refine ⟨_, LabelOk_v b.label h1, ?_⟩
  conv => whnf
  refine br_f (by rw [hg.2.1]; rfl) ?_
  conv => whnf
  refine ⟨_, OwnOk_v b.own h2, ?_⟩
  conv => whnf
  refine br_f (by rw [hg.2.2]; rfl) ?_
  conv => whnf
  refine ⟨_, ArenaNew_v, ?_⟩
  conv => whnf
  refine ⟨_, VC.le (ArenaPut_v newArena thr1 hn ⟨⟨by decide, by decide, by decide⟩, by decide, by decide⟩) (.cons .refl (.cons (.agg (by (repeat (first | exact .nil | refine .cons .refl ?_ | refine .cons .nil ?_)))) .nil)), ?_⟩
  conv => whnf
  refine ⟨_, copyLabel_v b.label h1, ?_⟩
  conv => whnf
  refine ⟨_, copyInts_v b.own h2, ?_⟩
  conv => whnf
  refine ⟨_, GcNew_v, ?_⟩
  conv => whnf
  refine ⟨_, GcBorn_v ⟨(putA newArena thr1).1, gcNew⟩ _ ⟨by decide, hp⟩, ?_⟩
  conv => whnf
  conv => whnf
  repeat (first | (refine ⟨by with_reducible rfl, ?_⟩; conv => whnf) | (refine ⟨rfl, ?_⟩; conv => whnf))
  exact True.intro
def worldNew (b : List Boot) : World := ⟨0, b.map partNew⟩
theorem map_snoc {α β : Type} {f : α → β} {l : List α} {k : Nat} {d : α} (h : k < l.length) : (l.take (k + 1)).map f = (l.take k).map f ++ [f (l.getD k d)] := by
  rw [take_snoc (d := d) h, List.map_append]; rfl
theorem WorldNew_v (b : List Boot) (hb : bootsB b) (hk : bootOk b = true) (hg : ∀ x ∈ b, bootGood x = true) : VC Tryz.prog 7 [.one (.ro .boot b)] (.av (.agg [iV 0, .own .part true (worldNew b).parts []])) := by
  refine VC.go tiOk vtOk [] Tryz.func7 rfl rfl ?_
  conv => whnf
  refine ⟨_, BootOk_v b hb, ?_⟩
  conv => whnf
  refine br_f (by rw [hk]; rfl) ?_
  conv => whnf
  refine goV_loop tiOk vtOk [7,8] (fun k : Nat => stV 32 [(2, .av (.one (.ptr [2] 0 0))), (3, .av (.one (.ptr [3] 0 0))), (13, .av (.one (.ro .boot b))), (14, .av (.one (iV b.length))), (15, .av (.one (iV k)))] [(3, some (.box [iV 0, .own .part true ((b.take k).map partNew) []])), (2, some (.box [iV 0, .sc (.slice none 0 0)]))]) (fun k => k ≤ b.length) (fun k => b.length - k) 0 (Nat.zero_le _) rfl ?_ fun k hj => ?_
  · conv => whnf
    repeat (first | (refine ⟨by with_reducible rfl, ?_⟩; conv => whnf) | (refine ⟨rfl, ?_⟩; conv => whnf))
    exact True.intro
  conv => whnf
  refine br (fun h => ?_) (fun h => ?_)
  · have hbl := hb.1
    have hk0 : k < b.length := by simpa using h
    have hm := getD_mem (d := d0 .boot) hk0
    have hx := hb.2 _ hm
    have hgx := hg _ hm
    have hk : k < b.length := hk0
    have hv := PartNew_v (b.getD k (d0 .boot)) hx.1 hx.2 hgx
    have hs : ((b.take (k + 1)).map partNew) = (b.take k).map partNew ++ [partNew (b.getD k (d0 .boot))] := map_snoc hk
    have hln : ((b.take k).map partNew).length = k := by simp; omega
    generalize (b.take k).map partNew = X at hs hln ⊢
    conv => whnf
    refine side_lt hk ?_
    conv => whnf
    generalize partNew (b.getD k (d0 .boot)) = p at hs hv
    refine VW.raw tiOk vtOk ?_
    conv => whnf
    refine ⟨_, hv, ?_⟩
    conv => whnf
    refine VW.reg tiOk vtOk ?_
    conv => whnf
    refine side_le (by simp [lenW, winL]; omega) ?_
    conv => whnf
    refine ⟨k + 1, hk, by omega, rfl, ?_⟩
    rw [hs]
    conv => whnf
    repeat (first | (refine ⟨by with_reducible rfl, ?_⟩; conv => whnf) | (refine ⟨congrArg _ (wrap_nat k (by omega)), ?_⟩; conv => whnf) | (refine ⟨(by (simp only [lenW, winL, addN0, app_set, app_get]; cases p; rfl)), ?_⟩; conv => whnf) | (refine ⟨rfl, ?_⟩; conv => whnf))
    exact True.intro
  · conv => whnf
    have e : b.take k = b := List.take_of_length_le (by simp at h; omega)
    rw [e]
    conv => whnf
    repeat (first | (refine ⟨by with_reducible rfl, ?_⟩; conv => whnf) | (refine ⟨rfl, ?_⟩; conv => whnf))
    exact True.intro

end Go.Proofs.YtiimdlkeikcfiaaGreat.V

namespace Go.Proofs.YtiimdlkeikcfiaaGreat.V
open Go.RowKit M
set_option maxRecDepth 100000
set_option maxHeartbeats 1000000
abbrev callC (p : Part) (me now th : Int) : List CV := [.own .i64 true p.label [], .own .i64 true p.own [], .own .res true p.tree [], .own .obj true p.heap.arena [], iV p.heap.gc.phase, iV p.heap.gc.at_, iV p.heap.gc.round, .own .i64 true p.heap.gc.grey [], .own .tap true p.taps [], iV p.next, iV p.want, iV p.spent.pages, iV p.spent.rent, iV p.spent.cpu, iV p.press, iV p.lost, iV me, iV now, iV th]
def slotC (p : Part) (me now h kind : Int) : Int × Int :=
  if !inB h 0 29999 then (0, 2) else if handlePart h != me then (0, 3) else if decide (goodSlot p.heap.arena now me h < 0) then (0, 4)
  else if kind != 0 && (p.heap.arena.getD (goodSlot p.heap.arena now me h).toNat (d0 .obj)).kind != kind then (0, 5) else (goodSlot p.heap.arena now me h, 0)
theorem goodSlot_in {l : List Obj} {now me h : Int} (hg : ¬ goodSlot l now me h < 0) : arenaOk l = true ∧ 0 ≤ goodSlot l now me h ∧ (goodSlot l now me h).toNat < l.length := by
  unfold goodSlot at hg ⊢
  split at hg
  · rename_i e
    rw [if_pos e]
    simp only [Bool.and_eq_true] at e
    have := handleSlot_in e.2.1
    have hl := arenaOk_len e.1
    exact ⟨e.1, by omega, by omega⟩
  · omega
theorem slot_v (p : Part) (me now th x kind : Int) (hb : arenaB p.heap.arena) : VP Tryz.prog 119 (callC p me now th) [iA x, iA kind] (callC p me now th) (.tup [iA (slotC p me now x kind).1, iA (slotC p me now x kind).2]) := by
  refine VP.go tiOk vtOk [] Tryz.func119 rfl rfl rfl rfl rfl rfl ?_
  conv => whnf
  refine ⟨_, isHandle_v x, ?_⟩
  conv => whnf
  refine br (fun h1 => ?_) (fun h1 => ?_)
  · have e : slotC p me now x kind = (0, 2) := if_pos (by simpa using h1)
    rw [e]
    conv => whnf
    repeat (first | (refine ⟨by with_reducible rfl, ?_⟩; conv => whnf) | (refine ⟨rfl, ?_⟩; conv => whnf))
    exact True.intro
  conv => whnf
  refine ⟨_, HandlePart_v x, ?_⟩
  conv => whnf
  refine br (fun h2 => ?_) (fun h2 => ?_)
  · have e : slotC p me now x kind = (0, 3) := by simp [slotC]; simp_all
    rw [e]
    conv => whnf
    repeat (first | (refine ⟨by with_reducible rfl, ?_⟩; conv => whnf) | (refine ⟨rfl, ?_⟩; conv => whnf))
    exact True.intro
  conv => whnf
  refine ⟨_, GoodSlot_v p.heap.arena now me x hb, ?_⟩
  conv => whnf
  refine br (fun h3 => ?_) (fun h3 => ?_)
  · have e : slotC p me now x kind = (0, 4) := by simp [slotC]; simp_all
    rw [e]
    conv => whnf
    repeat (first | (refine ⟨by with_reducible rfl, ?_⟩; conv => whnf) | (refine ⟨rfl, ?_⟩; conv => whnf))
    exact True.intro
  have hg := goodSlot_in (l := p.heap.arena) (now := now) (me := me) (h := x) (by simpa using h3)
  have e0 : slotC p me now x kind = if kind != 0 && (p.heap.arena.getD (goodSlot p.heap.arena now me x).toNat (d0 .obj)).kind != kind then (0, 5) else (goodSlot p.heap.arena now me x, 0) := by
    unfold slotC
    rw [h1, h2, h3]; rfl
  by_cases hq : (kind != 0 && (p.heap.arena.getD (goodSlot p.heap.arena now me x).toNat (d0 .obj)).kind != kind) = true
  · rw [if_pos hq] at e0
    rw [e0]
    conv => whnf
    repeat' (first | (refine idx_of hg.2.1 ?_; conv => whnf) | (refine side_lt hg.2.2 ?_; conv => whnf) | (refine side_le (by (simp [lenW, winL]; omega)) ?_; conv => whnf) | (refine br (fun h => ?_) (fun h => ?_) <;> conv => whnf))
    all_goals first
      | (exfalso; clear hb hg e0 h3; simp_all [offN]; done)
      | skip
    conv => whnf
    repeat (first | (refine ⟨by with_reducible rfl, ?_⟩; conv => whnf) | (refine ⟨rfl, ?_⟩; conv => whnf))
    exact True.intro
  · rw [if_neg hq] at e0
    rw [e0]
    conv => whnf
    repeat' (first | (refine idx_of hg.2.1 ?_; conv => whnf) | (refine side_lt hg.2.2 ?_; conv => whnf) | (refine side_le (by (simp [lenW, winL]; omega)) ?_; conv => whnf) | (refine br (fun h => ?_) (fun h => ?_) <;> conv => whnf))
    all_goals first
      | (exfalso; clear hb hg e0 h3; simp_all [offN]; done)
      | skip
    all_goals
      conv => whnf
      repeat (first | (refine ⟨by with_reducible rfl, ?_⟩; conv => whnf) | (refine ⟨rfl, ?_⟩; conv => whnf))
      exact True.intro
theorem slotC_in {p : Part} {me now h kind : Int} (hc : (slotC p me now h kind).2 = 0) : arenaOk p.heap.arena = true ∧ 0 ≤ (slotC p me now h kind).1 ∧ (slotC p me now h kind).1.toNat < p.heap.arena.length := by
  unfold slotC at hc ⊢
  split at hc
  · cases hc
  split at hc
  · cases hc
  split at hc
  · cases hc
  split at hc
  · cases hc
  rename_i h1 h2 h3 h4
  rw [if_neg h1, if_neg h2, if_neg h3, if_neg h4]
  exact goodSlot_in (by simpa using h3)
theorem goodSlot_kind {l : List Obj} {now me h : Int} (hg : ¬ goodSlot l now me h < 0) : (l.getD (goodSlot l now me h).toNat (d0 .obj)).kind ≠ 0 := by
  unfold goodSlot at hg ⊢
  split at hg
  · rename_i e
    rw [if_pos e]
    simp only [Bool.and_eq_true] at e
    simpa using e.2.2.2.1
  · omega
theorem slotC_links {p : Part} {me now h kind : Int} (hc : (slotC p me now h kind).2 = 0) : (p.heap.arena.getD (slotC p me now h kind).1.toNat (d0 .obj)).links.length = 2 := by
  have h0 := slotC_in hc
  have h1 : (p.heap.arena.getD (slotC p me now h kind).1.toNat (d0 .obj)).kind ≠ 0 := by
    unfold slotC at hc ⊢
    split at hc
    · cases hc
    split at hc
    · cases hc
    split at hc
    · cases hc
    split at hc
    · cases hc
    rename_i h1 h2 h3 h4
    rw [if_neg h1, if_neg h2, if_neg h3, if_neg h4]
    exact goodSlot_kind (by simpa using h3)
  have hl := arenaOk_len h0.1
  have h2 := h0.1
  simp only [arenaOk, Bool.and_eq_true] at h2
  have h3 := List.all_eq_true.1 h2.2 _ (List.mem_range.2 (show (slotC p me now h kind).1.toNat < 10 by omega))
  unfold slotOk slotO at h3
  simp only [Bool.and_eq_true] at h3
  have h4 := h3.1.1
  simp only [objOk, h1, if_false, Bool.and_eq_true, listsB, decide_eq_true_eq] at h4
  exact h4.2.1.2.1.1.2
def payC (p : Part) (f : Int) (a : Amt) : Part × Bool :=
  if (payT p.tree f a).2 && (addA p.spent ⟨0, a.rent, 0⟩).2 then ({ p with tree := (payT p.tree f a).1, spent := (addA p.spent ⟨0, a.rent, 0⟩).1 }, true) else (p, false)
theorem pay_v (p : Part) (me now th f : Int) (a : Amt) (hb : p.tree.length ≤ 1000000000) : VP Tryz.prog 134 (callC p me now th) [iA f, amtA a] (callC (payC p f a).1 me now th) (.av (.one (bV (payC p f a).2))) := by
  by_cases hq : ((payT p.tree f a).2 && (addA p.spent ⟨0, a.rent, 0⟩).2) = true
  · have e0 : payC p f a = ({ p with tree := (payT p.tree f a).1, spent := (addA p.spent ⟨0, a.rent, 0⟩).1 }, true) := if_pos hq
    rw [e0]
    refine VP.go tiOk vtOk [] Tryz.func134 rfl rfl rfl rfl rfl rfl ?_
    conv => whnf
    repeat' (first | (refine ⟨_, TreePay_v p.tree f a hb, ?_⟩; conv => whnf) | (refine ⟨_, AmtAdd_v p.spent ⟨0, a.rent, 0⟩, ?_⟩; conv => whnf) | (refine side_le (by (simp [lenW, winL]; omega)) ?_; conv => whnf) | (refine br (fun h => ?_) (fun h => ?_) <;> conv => whnf))
    all_goals first
      | (exfalso; clear e0; simp_all; done)
      | skip
    conv => whnf
    repeat (first | (refine ⟨by with_reducible rfl, ?_⟩; conv => whnf) | (refine ⟨rfl, ?_⟩; conv => whnf))
    exact True.intro
  · have e0 : payC p f a = (p, false) := if_neg hq
    rw [e0]
    refine VP.go tiOk vtOk [] Tryz.func134 rfl rfl rfl rfl rfl rfl ?_
    conv => whnf
    repeat' (first | (refine ⟨_, TreePay_v p.tree f a hb, ?_⟩; conv => whnf) | (refine ⟨_, AmtAdd_v p.spent ⟨0, a.rent, 0⟩, ?_⟩; conv => whnf) | (refine side_le (by (simp [lenW, winL]; omega)) ?_; conv => whnf) | (refine br (fun h => ?_) (fun h => ?_) <;> conv => whnf))
    all_goals first
      | (exfalso; clear e0; simp_all; done)
      | skip
    all_goals
      conv => whnf
      repeat (first | (refine ⟨by with_reducible rfl, ?_⟩; conv => whnf) | (refine ⟨rfl, ?_⟩; conv => whnf))
      exact True.intro
def setHeap (p : Part) (h : Heap) : Part := { p with heap := h }
def linkH (h : Heap) (a b to : Int) : Heap := { h with arena := h.arena.set a.toNat (Obj.w10 ((h.arena.getD a.toNat (d0 .obj)).links.set b.toNat to) (h.arena.getD a.toNat (d0 .obj))) }
def linkC (p : Part) (me now : Int) (c : Call) : Part × Int :=
  if !inB c.b 0 1 then (p, 2) else if (slotC p me now c.a 0).2 != 0 then (p, (slotC p me now c.a 0).2)
  else if c.kind == 2 then (if (slotC p me now c.c 0).2 != 0 then (p, (slotC p me now c.c 0).2) else (setHeap p (shadeIf (linkH p.heap (slotC p me now c.a 0).1 c.b (slotC p me now c.c 0).1) (slotC p me now c.c 0).1), 0))
  else (setHeap p (linkH p.heap (slotC p me now c.a 0).1 c.b (-1)), 0)
abbrev callA (c : Call) : AV := .agg [iV c.kind, iV c.a, iV c.b, iV c.c, iV c.d, iV c.e]
theorem link_v (p : Part) (me now th : Int) (c : Call) (hb : heapB p.heap) : VP Tryz.prog 121 (callC p me now th) [callA c] (callC (linkC p me now c).1 me now th) (iR (linkC p me now c).2) := by
  refine VP.go tiOk vtOk [3,8,11] Tryz.func121 rfl rfl rfl rfl rfl rfl ?_
  conv => whnf
  refine ⟨_, within_v c.b 0 1, ?_⟩
  conv => whnf
  refine br (fun h1 => ?_) (fun h1 => ?_)
  · have e : linkC p me now c = (p, 2) := if_pos (by simpa using h1)
    rw [e]
    conv => whnf
    repeat (first | (refine ⟨by with_reducible rfl, ?_⟩; conv => whnf) | (refine ⟨rfl, ?_⟩; conv => whnf))
    exact True.intro
  conv => whnf
  refine VW.call tiOk vtOk true 3 ?_
  conv => whnf
  refine ⟨_, _, slot_v p me now th c.a 0 hb.2, ?_⟩
  conv => whnf
  refine br (fun h2 => ?_) (fun h2 => ?_)
  · have e : linkC p me now c = (p, (slotC p me now c.a 0).2) := by
      unfold linkC
      rw [if_neg (by rw [h1]; simp), if_pos (by simpa using h2)]
    rw [e]
    conv => whnf
    repeat (first | (refine ⟨by with_reducible rfl, ?_⟩; conv => whnf) | (refine ⟨rfl, ?_⟩; conv => whnf))
    exact True.intro
  have hs := slotC_in (p := p) (me := me) (now := now) (h := c.a) (kind := 0) (by simpa using h2)
  have hb2 := inB_iff.1 (show inB c.b 0 1 = true by simpa using h1)
  have hb3 : c.b.toNat < (p.heap.arena.getD (slotC p me now c.a 0).1.toNat (d0 .obj)).links.length := by
    rw [slotC_links (by simpa using h2)]; omega
  conv => whnf
  refine br (fun h3 => ?_) (fun h3 => ?_)
  · refine VW.call tiOk vtOk true 3 ?_
    conv => whnf
    refine ⟨_, _, slot_v p me now th c.c 0 hb.2, ?_⟩
    conv => whnf
    refine br (fun h4 => ?_) (fun h4 => ?_)
    · have e : linkC p me now c = (p, (slotC p me now c.c 0).2) := by
        unfold linkC
        rw [if_neg (by rw [h1]; simp), if_neg (by rw [h2]; simp), if_pos h3, if_pos (by simpa using h4)]
      rw [e]
      conv => whnf
      repeat (first | (refine ⟨by with_reducible rfl, ?_⟩; conv => whnf) | (refine ⟨rfl, ?_⟩; conv => whnf))
      exact True.intro
    · have e : linkC p me now c = (setHeap p (shadeIf (linkH p.heap (slotC p me now c.a 0).1 c.b (slotC p me now c.c 0).1) (slotC p me now c.c 0).1), 0) := by
        unfold linkC
        rw [if_neg (by rw [h1]; simp), if_neg (by rw [h2]; simp), if_pos h3, if_neg (by simpa using h4)]
      rw [e]
      have ht := slotC_in (p := p) (me := me) (now := now) (h := c.c) (kind := 0) (by simpa using h4)
      have hbl : heapB (linkH p.heap (slotC p me now c.a 0).1 c.b (slotC p me now c.c 0).1) := ⟨hb.1, arenaB_set hb.2 (by
        have ho := hb.2.2 _ (getD_mem (d := d0 .obj) hs.2.2)
        exact ⟨⟨by show (List.set _ _ _).length ≤ _; rw [List.length_set]; exact ho.1.1, ho.1.2⟩, ho.2⟩)⟩
      conv => whnf
      refine VW.sub (s' := stV 1000062 [(0, .av (.one (.ptr [9999] 0 0))), (3, .av (.one (.ptr [3] 0 0))), (4, .av (iA 0)), (5, .av (iA (slotC p me now c.a 0).1)), (7, .av (iA (slotC p me now c.c 0).1))] [(9999, some (.box (callC p me now th))), (3, some (.box [iV c.kind, iV c.a, iV c.b, iV c.c, iV c.d, iV c.e]))]) rfl ?_ ?_
      · conv => whnf
        repeat (first | (refine ⟨by with_reducible rfl, ?_⟩; conv => whnf) | (refine ⟨rfl, ?_⟩; conv => whnf))
        exact True.intro
      refine VW.drw tiOk vtOk rfl ?_
      conv => whnf
      refine idx_of hs.2.1 ?_
      conv => whnf
      refine side_lt hs.2.2 ?_
      conv => whnf
      refine idx_of hb2.1 ?_
      conv => whnf
      refine side_lt hb3 ?_
      conv => whnf
      refine br_t (by simpa using ht.2.1) ?_
      conv => whnf
      refine ⟨_, GcShade_v (linkH p.heap (slotC p me now c.a 0).1 c.b (slotC p me now c.c 0).1) (slotC p me now c.c 0).1 hbl, ?_⟩
      conv => whnf
      conv => whnf
      repeat (first | (refine ⟨by with_reducible rfl, ?_⟩; conv => whnf) | (refine ⟨rfl, ?_⟩; conv => whnf))
      exact True.intro
  · have e : linkC p me now c = (setHeap p (linkH p.heap (slotC p me now c.a 0).1 c.b (-1)), 0) := by
      unfold linkC
      rw [if_neg (by rw [h1]; simp), if_neg (by rw [h2]; simp), if_neg (by rw [h3]; simp)]
    rw [e]
    conv => whnf
    refine VW.sub (s' := stV 1000062 [(0, .av (.one (.ptr [9999] 0 0))), (3, .av (.one (.ptr [3] 0 0))), (4, .av (iA 0)), (5, .av (iA (slotC p me now c.a 0).1)), (7, .av (iA (-1)))] [(9999, some (.box (callC p me now th))), (3, some (.box [iV c.kind, iV c.a, iV c.b, iV c.c, iV c.d, iV c.e]))]) rfl ?_ ?_
    · conv => whnf
      repeat (first | (refine ⟨by with_reducible rfl, ?_⟩; conv => whnf) | (refine ⟨rfl, ?_⟩; conv => whnf))
      exact True.intro
    refine VW.drw tiOk vtOk rfl ?_
    conv => whnf
    refine idx_of hs.2.1 ?_
    conv => whnf
    refine side_lt hs.2.2 ?_
    conv => whnf
    refine idx_of hb2.1 ?_
    conv => whnf
    refine side_lt hb3 ?_
    conv => whnf
    conv => whnf
    repeat (first | (refine ⟨by with_reducible rfl, ?_⟩; conv => whnf) | (refine ⟨rfl, ?_⟩; conv => whnf))
    exact True.intro
def moveH (h : Heap) (a to : Int) : Heap := { h with arena := h.arena.set a.toNat (Obj.w2 to (h.arena.getD a.toNat (d0 .obj))) }
def moveC (p : Part) (me now : Int) (c : Call) : Part × Int :=
  if (slotC p me now c.a 0).2 != 0 then (p, (slotC p me now c.a 0).2) else if (slotC p me now c.a 0).1 == 0 then (p, 5)
  else if c.kind == 4 then (if (slotC p me now c.b 1).2 != 0 then (p, (slotC p me now c.b 1).2) else (setHeap p (shadeIf (moveH p.heap (slotC p me now c.a 0).1 (slotC p me now c.b 1).1) (slotC p me now c.a 0).1), 0))
  else (setHeap p (moveH p.heap (slotC p me now c.a 0).1 (-1)), 0)
theorem move_v (p : Part) (me now th : Int) (c : Call) (hb : heapB p.heap) : VP Tryz.prog 122 (callC p me now th) [callA c] (callC (moveC p me now c).1 me now th) (iR (moveC p me now c).2) := by
  refine VP.go tiOk vtOk [1,8,11] Tryz.func122 rfl rfl rfl rfl rfl rfl ?_
  conv => whnf
  refine VW.call tiOk vtOk true 3 ?_
  conv => whnf
  refine ⟨_, _, slot_v p me now th c.a 0 hb.2, ?_⟩
  conv => whnf
  refine br (fun h2 => ?_) (fun h2 => ?_)
  · have e : moveC p me now c = (p, (slotC p me now c.a 0).2) := by
      unfold moveC
      rw [if_pos (by simpa using h2)]
    rw [e]
    conv => whnf
    repeat (first | (refine ⟨by with_reducible rfl, ?_⟩; conv => whnf) | (refine ⟨rfl, ?_⟩; conv => whnf))
    exact True.intro
  have hs := slotC_in (p := p) (me := me) (now := now) (h := c.a) (kind := 0) (by simpa using h2)
  conv => whnf
  refine br (fun h1 => ?_) (fun h1 => ?_)
  · have e : moveC p me now c = (p, 5) := by
      unfold moveC
      rw [if_neg (by rw [h2]; simp), if_pos h1]
    rw [e]
    conv => whnf
    repeat (first | (refine ⟨by with_reducible rfl, ?_⟩; conv => whnf) | (refine ⟨rfl, ?_⟩; conv => whnf))
    exact True.intro
  conv => whnf
  refine br (fun h3 => ?_) (fun h3 => ?_)
  · refine VW.call tiOk vtOk true 3 ?_
    conv => whnf
    refine ⟨_, _, slot_v p me now th c.b 1 hb.2, ?_⟩
    conv => whnf
    refine br (fun h4 => ?_) (fun h4 => ?_)
    · have e : moveC p me now c = (p, (slotC p me now c.b 1).2) := by
        unfold moveC
        rw [if_neg (by rw [h2]; simp), if_neg (by rw [h1]; simp), if_pos h3, if_pos (by simpa using h4)]
      rw [e]
      conv => whnf
      repeat (first | (refine ⟨by with_reducible rfl, ?_⟩; conv => whnf) | (refine ⟨rfl, ?_⟩; conv => whnf))
      exact True.intro
    · have e : moveC p me now c = (setHeap p (shadeIf (moveH p.heap (slotC p me now c.a 0).1 (slotC p me now c.b 1).1) (slotC p me now c.a 0).1), 0) := by
        unfold moveC
        rw [if_neg (by rw [h2]; simp), if_neg (by rw [h1]; simp), if_pos h3, if_neg (by simpa using h4)]
      rw [e]
      have ht := slotC_in (p := p) (me := me) (now := now) (h := c.b) (kind := 1) (by simpa using h4)
      have hbl : heapB (moveH p.heap (slotC p me now c.a 0).1 (slotC p me now c.b 1).1) := ⟨hb.1, arenaB_set hb.2 (by
        have ho := hb.2.2 _ (getD_mem (d := d0 .obj) hs.2.2)
        exact ⟨ho.1, ho.2⟩)⟩
      conv => whnf
      refine VW.sub (s' := stV 1000056 [(0, .av (.one (.ptr [9999] 0 0))), (3, .av (.one (.ptr [3] 0 0))), (4, .av (iA 0)), (5, .av (iA (slotC p me now c.a 0).1)), (7, .av (iA (slotC p me now c.b 1).1))] [(9999, some (.box (callC p me now th))), (3, some (.box [iV c.kind, iV c.a, iV c.b, iV c.c, iV c.d, iV c.e]))]) rfl ?_ ?_
      · conv => whnf
        repeat (first | (refine ⟨by with_reducible rfl, ?_⟩; conv => whnf) | (refine ⟨rfl, ?_⟩; conv => whnf))
        exact True.intro
      refine VW.reg tiOk vtOk ?_
      conv => whnf
      refine idx_of hs.2.1 ?_
      conv => whnf
      refine side_lt hs.2.2 ?_
      conv => whnf
      refine br_t (by simpa using ht.2.1) ?_
      conv => whnf
      refine ⟨_, GcShade_v (moveH p.heap (slotC p me now c.a 0).1 (slotC p me now c.b 1).1) (slotC p me now c.a 0).1 hbl, ?_⟩
      conv => whnf
      conv => whnf
      repeat (first | (refine ⟨by with_reducible rfl, ?_⟩; conv => whnf) | (refine ⟨rfl, ?_⟩; conv => whnf))
      exact True.intro
  · have e : moveC p me now c = (setHeap p (moveH p.heap (slotC p me now c.a 0).1 (-1)), 0) := by
      unfold moveC
      rw [if_neg (by rw [h2]; simp), if_neg (by rw [h1]; simp), if_neg (by rw [h3]; simp)]
    rw [e]
    conv => whnf
    refine VW.sub (s' := stV 1000056 [(0, .av (.one (.ptr [9999] 0 0))), (3, .av (.one (.ptr [3] 0 0))), (4, .av (iA 0)), (5, .av (iA (slotC p me now c.a 0).1)), (7, .av (iA (-1)))] [(9999, some (.box (callC p me now th))), (3, some (.box [iV c.kind, iV c.a, iV c.b, iV c.c, iV c.d, iV c.e]))]) rfl ?_ ?_
    · conv => whnf
      repeat (first | (refine ⟨by with_reducible rfl, ?_⟩; conv => whnf) | (refine ⟨rfl, ?_⟩; conv => whnf))
      exact True.intro
    refine VW.reg tiOk vtOk ?_
    conv => whnf
    refine idx_of hs.2.1 ?_
    conv => whnf
    refine side_lt hs.2.2 ?_
    conv => whnf
    conv => whnf
    repeat (first | (refine ⟨by with_reducible rfl, ?_⟩; conv => whnf) | (refine ⟨rfl, ?_⟩; conv => whnf))
    exact True.intro

end Go.Proofs.YtiimdlkeikcfiaaGreat.V

namespace Go.Proofs.YtiimdlkeikcfiaaGreat.V
open Go.RowKit M
set_option maxRecDepth 100000
set_option maxHeartbeats 1000000
def makeO (now : Int) (c : Call) (box : Int) : Obj := ⟨0, c.a, box, c.e, now + c.d, c.c, 0, 0, 0, false, [-1, -1], if c.a == 2 then List.replicate c.c.toNat 0 else [], []⟩
def makeOk (now : Int) (c : Call) : Bool := inB c.a 1 4 && (inB c.c 0 8 && (inB c.d 1 1000 && (!decide (1000000 < now + c.d) && inB c.e 0 4)))
def makeG (p : Part) (me : Int) (o : Obj) : Part × Int × Int :=
  if decide ((putA p.heap.arena o).2 < 0) then (p, 7, 0) else (setHeap p (bornG ⟨(putA p.heap.arena o).1, p.heap.gc⟩ (putA p.heap.arena o).2), 0, handleOf me (putA p.heap.arena o).2 ((putA p.heap.arena o).1.getD (putA p.heap.arena o).2.toNat (d0 .obj)).gen)
def makeC (p : Part) (me now : Int) (c : Call) : Part × Int × Int :=
  if makeOk now c then (if (slotC p me now c.b 1).2 != 0 then (p, (slotC p me now c.b 1).2, 0)
    else if (payC p c.e ⟨c.c, c.c * c.d, 0⟩).2 then makeG (payC p c.e ⟨c.c, c.c * c.d, 0⟩).1 me (makeO now c (slotC p me now c.b 1).1)
    else (p, 6, 0)) else (p, 2, 0)
theorem payC_heap {p : Part} {f : Int} {a : Amt} : (payC p f a).1.heap = p.heap ∧ ((payC p f a).2 = false → (payC p f a).1 = p) := by
  unfold payC
  split
  · exact ⟨rfl, fun h => by cases h⟩
  · exact ⟨rfl, fun _ => rfl⟩
theorem putA_in {l : List Obj} {o : Obj} (h : ¬ (putA l o).2 < 0) : 0 ≤ (putA l o).2 ∧ (putA l o).2.toNat < (putA l o).1.length := by
  unfold putA at h ⊢
  split
  · rename_i e
    rw [if_pos e] at h
    simp only [Bool.and_eq_true] at e
    have hl := arenaOk_len e.1
    split at h
    · rename_i i hi
      have h10 := List.mem_range.1 (List.mem_of_find?_eq_some hi)
      split at h
      · rename_i e2
        rw [if_pos e2]
        refine ⟨by simp, ?_⟩
        unfold putAt
        simp only [List.length_set]
        omega
      · exact absurd (show (-1 : Int) < 0 by decide) h
    · exact absurd (show (-1 : Int) < 0 by decide) h
  · rename_i e
    rw [if_neg e] at h
    exact absurd (show (-1 : Int) < 0 by decide) h
theorem putA_B {l : List Obj} {o : Obj} (hl : arenaB l) (ho : objB o ∧ -1000000000000 ≤ o.wait ∧ o.wait ≤ 1000000000000) : arenaB (putA l o).1 := by
  unfold putA
  split
  · split
    · split
      · exact arenaB_set hl ho
      · exact hl
    · exact hl
  · exact hl
theorem makeO_B {now : Int} {c : Call} {sl : Int} (h : 0 ≤ c.c ∧ c.c ≤ 8) : objB (makeO now c sl) ∧ -1000000000000 ≤ (makeO now c sl).wait ∧ (makeO now c sl).wait ≤ 1000000000000 := by
  refine ⟨⟨by show 2 ≤ 1000000000; decide, ?_, by show 0 ≤ 1000000000; decide⟩, by show (-1000000000000:Int) ≤ 0; decide, by show (0:Int) ≤ 1000000000000; decide⟩
  show (if _ then _ else _ : List Int).length ≤ _
  split
  · rw [List.length_replicate]; omega
  · exact Nat.zero_le _
theorem make_v (p : Part) (me now th : Int) (c : Call) (hb : heapB p.heap) (ht : p.tree.length ≤ 1000000000) (hn : 0 ≤ now ∧ now ≤ 1000000) : VP Tryz.prog 120 (callC p me now th) [callA c] (callC (makeC p me now c).1 me now th) (.tup [iA (makeC p me now c).2.1, iA (makeC p me now c).2.2]) := by
  by_cases hok : makeOk now c = true
  · have eM : makeC p me now c = if (slotC p me now c.b 1).2 != 0 then (p, (slotC p me now c.b 1).2, 0)
      else if (payC p c.e ⟨c.c, c.c * c.d, 0⟩).2 then makeG (payC p c.e ⟨c.c, c.c * c.d, 0⟩).1 me (makeO now c (slotC p me now c.b 1).1)
      else (p, 6, 0) := if_pos hok
    simp only [makeOk, Bool.and_eq_true] at hok
    obtain ⟨k1, k2, k3, k4, k5⟩ := hok
    have j1 := inB_iff.1 k1
    have j2 := inB_iff.1 k2
    have j3 := inB_iff.1 k3
    have ew : IntKind.i64.wrap (now + c.d) = now + c.d := wrap_in (by omega)
    have hcd : 0 ≤ c.c * c.d ∧ c.c * c.d ≤ 8 * 1000 := ⟨Int.mul_nonneg j2.1 (by omega), Int.mul_le_mul j2.2 j3.2 (by omega) (by omega)⟩
    have ew2 : IntKind.i64.wrap (c.c * c.d) = c.c * c.d := wrap_in (by omega)
    refine VP.go tiOk vtOk [3,6,8,9,10,11,14] Tryz.func120 rfl rfl rfl rfl rfl rfl ?_
    conv => whnf
    refine ⟨_, within_v c.a 1 4, ?_⟩
    conv => whnf
    refine br_f (by rw [k1]; rfl) ?_
    conv => whnf
    refine ⟨_, within_v c.c 0 8, ?_⟩
    conv => whnf
    refine br_f (by rw [k2]; rfl) ?_
    conv => whnf
    refine ⟨_, within_v c.d 1 1000, ?_⟩
    conv => whnf
    refine br_f (by rw [k3]; rfl) ?_
    conv => whnf
    refine br_f (by rw [ew]; simpa using k4) ?_
    conv => whnf
    refine ⟨_, isPlace_v c.e, ?_⟩
    conv => whnf
    refine br_f (by rw [k5]; rfl) ?_
    conv => whnf
    refine VW.call tiOk vtOk true 3 ?_
    conv => whnf
    refine ⟨_, _, slot_v p me now th c.b 1 hb.2, ?_⟩
    conv => whnf
    refine br (fun h2 => ?_) (fun h2 => ?_)
    · have e : makeC p me now c = (p, (slotC p me now c.b 1).2, 0) := by rw [eM, if_pos h2]
      rw [e]
      conv => whnf
      repeat (first | (refine ⟨by with_reducible rfl, ?_⟩; conv => whnf) | (refine ⟨rfl, ?_⟩; conv => whnf))
      exact True.intro
    rw [if_neg (by rw [h2]; simp)] at eM
    conv => whnf
    refine VW.call tiOk vtOk true 11 ?_
    conv => whnf
    rw [ew2]
    refine ⟨_, _, pay_v p me now th c.e ⟨c.c, c.c * c.d, 0⟩ ht, ?_⟩
    have hp := payC_heap (p := p) (f := c.e) (a := ⟨c.c, c.c * c.d, 0⟩)
    generalize payC p c.e ⟨c.c, c.c * c.d, 0⟩ = q at eM hp ⊢
    conv => whnf
    refine br (fun h3 => ?_) (fun h3 => ?_)
    · have hq : q.2 = false := by simpa using h3
      rw [hq] at eM
      have e : makeC p me now c = (q.1, 6, 0) := by rw [eM, hp.2 hq]; rfl
      rw [e]
      conv => whnf
      repeat (first | (refine ⟨by with_reducible rfl, ?_⟩; conv => whnf) | (refine ⟨rfl, ?_⟩; conv => whnf))
      exact True.intro
    have hq : q.2 = true := by simpa using h3
    rw [hq, if_pos rfl] at eM
    rw [eM]
    have hb2 : heapB q.1.heap := by rw [hp.1]; exact hb
    generalize q.1 = p1 at hb2 ⊢
    generalize (slotC p me now c.b 1).1 = sl
    conv => whnf
    refine VW.sub (s' := stV 1000130 [(0, .av (.one (.ptr [9999] 0 0))), (3, .av (.one (.ptr [3] 0 0))), (4, .av (iA 0)), (5, .av (iA 0)), (6, .av (iA sl))] [(9999, some (.box (callC p1 me now th))), (3, some (.box [iV c.kind, iV c.a, iV c.b, iV c.c, iV c.d, iV c.e]))]) rfl ?_ ?_
    · conv => whnf
      repeat (first | (refine ⟨by with_reducible rfl, ?_⟩; conv => whnf) | (refine ⟨rfl, ?_⟩; conv => whnf))
      exact True.intro
    refine VW.drw tiOk vtOk rfl ?_
    conv => whnf
    refine VW.sub (s' := stV 1000130 [(0, .av (.one (.ptr [9999] 0 0))), (3, .av (.one (.ptr [3] 0 0))), (4, .av (iA 0)), (5, .av (iA 0)), (6, .av (iA sl)), (8, .av (.one (.ptr [8] 0 0)))] [(9999, some (.box (callC p1 me now th))), (3, some (.box [iV c.kind, iV c.a, iV c.b, iV c.c, iV c.d, iV c.e])), (8, some (.box [iV 0, iV c.a, iV sl, iV c.e, iV (now + c.d), iV c.c, iV 0, iV 0, iV 0, bV false, .own .i64 true [-1, -1] [], .sc (.slice none 0 0), .sc (.slice none 0 0)]))]) rfl ?_ ?_
    · conv => whnf
      repeat (first | (refine ⟨by with_reducible rfl, ?_⟩; conv => whnf) | (refine ⟨congrArg _ ew, ?_⟩; conv => whnf) | (refine ⟨rfl, ?_⟩; conv => whnf))
      exact True.intro
    refine VW.reg tiOk vtOk ?_
    conv => whnf
    refine br (fun h5 => ?_) (fun h5 => ?_)
    · conv => whnf
      refine VW.reg tiOk vtOk ?_
      conv => whnf
      refine idx_of j2.1 ?_
      conv => whnf
      refine idx_of j2.1 ?_
      conv => whnf
      refine side_eq rfl ?_
      conv => whnf
      refine side_le (show c.c.toNat ≤ 1000000000 by omega) ?_
      conv => whnf
      refine VW.sub (s' := stV 1000130 [(0, .av (.one (.ptr [9999] 0 0))), (3, .av (.one (.ptr [3] 0 0))), (4, .av (iA 0)), (5, .av (iA 0)), (8, .av (.one (.ptr [8] 0 0)))] [(9999, some (.box (callC p1 me now th))), (3, some (.box [iV c.kind, iV c.a, iV c.b, iV c.c, iV c.d, iV c.e])), (8, some (.box [iV 0, iV c.a, iV sl, iV c.e, iV (now + c.d), iV c.c, iV 0, iV 0, iV 0, bV false, .own .i64 true [-1, -1] [], .own .i64 true (List.replicate c.c.toNat 0) [], .sc (.slice none 0 0)]))]) rfl ?_ ?_
      · conv => whnf
        repeat (first | (refine ⟨by with_reducible rfl, ?_⟩; conv => whnf) | (refine ⟨rfl, ?_⟩; conv => whnf))
        exact True.intro
      refine VW.drw tiOk vtOk rfl ?_
      conv => whnf
      have hbo := makeO_B (now := now) (c := c) (sl := sl) j2
      have eO : makeO now c sl = ⟨0, c.a, sl, c.e, now + c.d, c.c, 0, 0, 0, false, [-1, -1], List.replicate c.c.toNat 0, []⟩ := by simp only [makeO, h5]; rfl
      have hv := ArenaPut_v p1.heap.arena (makeO now c sl) hb2.2 hbo
      have hpi := putA_in (l := p1.heap.arena) (o := makeO now c sl)
      have hpb := putA_B (l := p1.heap.arena) (o := makeO now c sl) hb2.2 hbo
      have eG : makeG p1 me (makeO now c sl) = if decide ((putA p1.heap.arena (makeO now c sl)).2 < 0) then (p1, 7, 0) else (setHeap p1 (bornG ⟨(putA p1.heap.arena (makeO now c sl)).1, p1.heap.gc⟩ (putA p1.heap.arena (makeO now c sl)).2), 0, handleOf me (putA p1.heap.arena (makeO now c sl)).2 ((putA p1.heap.arena (makeO now c sl)).1.getD (putA p1.heap.arena (makeO now c sl)).2.toNat (d0 .obj)).gen) := rfl
      rw [eG]
      rw [eO] at hv
      rw [← eO] at hv
      generalize putA p1.heap.arena (makeO now c sl) = r at hv hpi hpb ⊢
      rw [eO] at hv
      refine ⟨_, VC.le hv (.cons .refl (.cons (.agg (by (repeat (first | exact .nil | refine .cons .refl ?_ | refine .cons .nil ?_)))) .nil)), ?_⟩
      conv => whnf
      refine br (fun h6 => ?_) (fun h6 => ?_)
      · rw [if_pos h6]
        conv => whnf
        repeat (first | (refine ⟨by with_reducible rfl, ?_⟩; conv => whnf) | (refine ⟨rfl, ?_⟩; conv => whnf))
        exact True.intro
      rw [if_neg (by rw [h6]; simp)]
      have hri := hpi (by simpa using h6)
      conv => whnf
      refine VW.raw tiOk vtOk ?_
      conv => whnf
      refine ⟨_, GcBorn_v ⟨r.1, p1.heap.gc⟩ r.2 ⟨hb2.1, hpb⟩, ?_⟩
      conv => whnf
      refine idx_of hri.1 ?_
      conv => whnf
      refine side_lt hri.2 ?_
      conv => whnf
      refine ⟨_, HandleOf_v me r.2 _, ?_⟩
      conv => whnf
      conv => whnf
      repeat (first | (refine ⟨by with_reducible rfl, ?_⟩; conv => whnf) | (refine ⟨rfl, ?_⟩; conv => whnf))
      exact True.intro
    · conv => whnf
      refine VW.sub (s' := stV 1000130 [(0, .av (.one (.ptr [9999] 0 0))), (3, .av (.one (.ptr [3] 0 0))), (4, .av (iA 0)), (5, .av (iA 0)), (8, .av (.one (.ptr [8] 0 0)))] [(9999, some (.box (callC p1 me now th))), (3, some (.box [iV c.kind, iV c.a, iV c.b, iV c.c, iV c.d, iV c.e])), (8, some (.box [iV 0, iV c.a, iV sl, iV c.e, iV (now + c.d), iV c.c, iV 0, iV 0, iV 0, bV false, .own .i64 true [-1, -1] [], .sc (.slice none 0 0), .sc (.slice none 0 0)]))]) rfl ?_ ?_
      · conv => whnf
        repeat (first | (refine ⟨by with_reducible rfl, ?_⟩; conv => whnf) | (refine ⟨rfl, ?_⟩; conv => whnf))
        exact True.intro
      refine VW.drw tiOk vtOk rfl ?_
      conv => whnf
      have hbo := makeO_B (now := now) (c := c) (sl := sl) j2
      have eO : makeO now c sl = ⟨0, c.a, sl, c.e, now + c.d, c.c, 0, 0, 0, false, [-1, -1], [], []⟩ := by simp only [makeO, h5]; rfl
      have hv := ArenaPut_v p1.heap.arena (makeO now c sl) hb2.2 hbo
      have hpi := putA_in (l := p1.heap.arena) (o := makeO now c sl)
      have hpb := putA_B (l := p1.heap.arena) (o := makeO now c sl) hb2.2 hbo
      have eG : makeG p1 me (makeO now c sl) = if decide ((putA p1.heap.arena (makeO now c sl)).2 < 0) then (p1, 7, 0) else (setHeap p1 (bornG ⟨(putA p1.heap.arena (makeO now c sl)).1, p1.heap.gc⟩ (putA p1.heap.arena (makeO now c sl)).2), 0, handleOf me (putA p1.heap.arena (makeO now c sl)).2 ((putA p1.heap.arena (makeO now c sl)).1.getD (putA p1.heap.arena (makeO now c sl)).2.toNat (d0 .obj)).gen) := rfl
      rw [eG]
      rw [eO] at hv
      rw [← eO] at hv
      generalize putA p1.heap.arena (makeO now c sl) = r at hv hpi hpb ⊢
      rw [eO] at hv
      refine ⟨_, VC.le hv (.cons .refl (.cons (.agg (by (repeat (first | exact .nil | refine .cons .refl ?_ | refine .cons .nil ?_)))) .nil)), ?_⟩
      conv => whnf
      refine br (fun h6 => ?_) (fun h6 => ?_)
      · rw [if_pos h6]
        conv => whnf
        repeat (first | (refine ⟨by with_reducible rfl, ?_⟩; conv => whnf) | (refine ⟨rfl, ?_⟩; conv => whnf))
        exact True.intro
      rw [if_neg (by rw [h6]; simp)]
      have hri := hpi (by simpa using h6)
      conv => whnf
      refine VW.raw tiOk vtOk ?_
      conv => whnf
      refine ⟨_, GcBorn_v ⟨r.1, p1.heap.gc⟩ r.2 ⟨hb2.1, hpb⟩, ?_⟩
      conv => whnf
      refine idx_of hri.1 ?_
      conv => whnf
      refine side_lt hri.2 ?_
      conv => whnf
      refine ⟨_, HandleOf_v me r.2 _, ?_⟩
      conv => whnf
      conv => whnf
      repeat (first | (refine ⟨by with_reducible rfl, ?_⟩; conv => whnf) | (refine ⟨rfl, ?_⟩; conv => whnf))
      exact True.intro
  · have e : makeC p me now c = (p, 2, 0) := if_neg hok
    rw [e]
    refine VP.go tiOk vtOk [3,6,8,14] Tryz.func120 rfl rfl rfl rfl rfl rfl ?_
    conv => whnf
    repeat' (first | (refine ⟨_, within_v c.a 1 4, ?_⟩; conv => whnf) | (refine ⟨_, within_v c.c 0 8, ?_⟩; conv => whnf) | (refine ⟨_, within_v c.d 1 1000, ?_⟩; conv => whnf) | (refine ⟨_, isPlace_v c.e, ?_⟩; conv => whnf) | (refine side_le (by (simp [lenW, winL]; omega)) ?_; conv => whnf) | (refine br (fun h => ?_) (fun h => ?_) <;> conv => whnf))
    any_goals
      conv => whnf
      repeat (first | (refine ⟨by with_reducible rfl, ?_⟩; conv => whnf) | (refine ⟨rfl, ?_⟩; conv => whnf))
      exact True.intro
    exfalso
    rename_i a1 a2 a3 a4
    have a5 := h
    have k3 := inB_iff.1 (show inB c.d 1 1000 = true by simpa using a3)
    rw [wrap_in (by omega)] at a4
    refine hok ?_
    simp only [Bool.not_eq_false'] at a1 a2 a3 a5
    simp only [makeOk, a1, a2, a3, a4, a5]
    rfl
def doC (p : Part) (me now : Int) (c : Call) : Part × Int × Int :=
  if c.kind == 1 then makeC p me now c else if c.kind == 2 || c.kind == 3 then ((linkC p me now c).1, (linkC p me now c).2, 0) else ((moveC p me now c).1, (moveC p me now c).2, 0)
theorem do_v (p : Part) (me now th : Int) (c : Call) (hb : heapB p.heap) (ht : p.tree.length ≤ 1000000000) (hn : 0 ≤ now ∧ now ≤ 1000000) (hk : 1 ≤ c.kind ∧ c.kind ≤ 5) : VP Tryz.prog 95 (callC p me now th) [callA c] (callC (doC p me now c).1 me now th) (.tup [iA (doC p me now c).2.1, iA (doC p me now c).2.2]) := by
  refine VP.go tiOk vtOk [3,6,9] Tryz.func95 rfl rfl rfl rfl rfl rfl ?_
  conv => whnf
  refine br (fun h1 => ?_) (fun h1 => ?_)
  · have e : doC p me now c = makeC p me now c := if_pos h1
    rw [e]
    refine VW.call tiOk vtOk true 2 ?_
    conv => whnf
    refine ⟨_, _, make_v p me now th c hb ht hn, ?_⟩
    conv => whnf
    repeat (first | (refine ⟨by with_reducible rfl, ?_⟩; conv => whnf) | (refine ⟨rfl, ?_⟩; conv => whnf))
    exact True.intro
  have e1 : doC p me now c = if c.kind == 2 || c.kind == 3 then ((linkC p me now c).1, (linkC p me now c).2, 0) else ((moveC p me now c).1, (moveC p me now c).2, 0) := if_neg (by rw [h1]; simp)
  conv => whnf
  refine br (fun h2 => ?_) (fun h2 => ?_)
  · have e : doC p me now c = ((linkC p me now c).1, (linkC p me now c).2, 0) := by rw [e1, if_pos (by rw [h2]; rfl)]
    rw [e]
    conv => whnf
    refine br_t h2 ?_
    conv => whnf
    refine VW.call tiOk vtOk true 2 ?_
    conv => whnf
    refine ⟨_, _, link_v p me now th c hb, ?_⟩
    conv => whnf
    repeat (first | (refine ⟨by with_reducible rfl, ?_⟩; conv => whnf) | (refine ⟨rfl, ?_⟩; conv => whnf))
    exact True.intro
  conv => whnf
  refine br (fun h3 => ?_) (fun h3 => ?_)
  · have e : doC p me now c = ((linkC p me now c).1, (linkC p me now c).2, 0) := by rw [e1, if_pos (by rw [h3]; simp)]
    rw [e]
    refine VW.call tiOk vtOk true 2 ?_
    conv => whnf
    refine ⟨_, _, link_v p me now th c hb, ?_⟩
    conv => whnf
    repeat (first | (refine ⟨by with_reducible rfl, ?_⟩; conv => whnf) | (refine ⟨rfl, ?_⟩; conv => whnf))
    exact True.intro
  have e : doC p me now c = ((moveC p me now c).1, (moveC p me now c).2, 0) := by rw [e1, if_neg (by rw [h2, h3]; simp)]
  rw [e]
  conv => whnf
  refine br (fun h4 => ?_) (fun h4 => ?_)
  · conv => whnf
    refine br_t h4 ?_
    conv => whnf
    refine VW.call tiOk vtOk true 2 ?_
    conv => whnf
    refine ⟨_, _, move_v p me now th c hb, ?_⟩
    conv => whnf
    repeat (first | (refine ⟨by with_reducible rfl, ?_⟩; conv => whnf) | (refine ⟨rfl, ?_⟩; conv => whnf))
    exact True.intro
  conv => whnf
  refine br_t (by simp at h1 h2 h3 h4 ⊢; omega) ?_
  conv => whnf
  refine VW.call tiOk vtOk true 2 ?_
  conv => whnf
  refine ⟨_, _, move_v p me now th c hb, ?_⟩
  conv => whnf
  repeat (first | (refine ⟨by with_reducible rfl, ?_⟩; conv => whnf) | (refine ⟨rfl, ?_⟩; conv => whnf))
  exact True.intro

end Go.Proofs.YtiimdlkeikcfiaaGreat.V

namespace Go.Proofs.YtiimdlkeikcfiaaGreat.V
open Go.RowKit M
set_option maxRecDepth 100000
set_option maxHeartbeats 1000000
abbrev partZ : List CV := [.sc (.slice none 0 0), .sc (.slice none 0 0), .sc (.slice none 0 0), .sc (.slice none 0 0), iV 0, iV 0, iV 0, .sc (.slice none 0 0), .sc (.slice none 0 0), iV 0, iV 0, iV 0, iV 0, iV 0, iV 0, iV 0]
def partG (p : Part) : Prop := partB p ∧ partCB p ∧ p.heap.gc.grey.length ≤ 100000000
theorem partG.heap {p : Part} (h : partG p) : heapB p.heap := ⟨h.2.2, h.1.2.2.2.1⟩
def pressP (p : Part) : Part := { p with press := min (p.press + 1) 1000000 }
def partCall (p : Part) (me now th : Int) (c : Call) : Part × Int × Int :=
  if partOk p && (inB me 0 2 && inB now 0 1000000) then (if canCall p now th then (if (doC p me now c).2.1 == 0 then ((doC p me now c).1, 0, (doC p me now c).2.2)
    else (if c.kind == 1 && ((doC p me now c).2.1 == 6 || (doC p me now c).2.1 == 7) then pressP p else p, (doC p me now c).2.1, 0)) else (p, 1, 0)) else (p, 2, 0)
theorem PartCall_v (p : Part) (me now th : Int) (c : Call) (hb : partG p) (hk : 1 ≤ c.kind ∧ c.kind ≤ 5) : VC Tryz.prog 57 [.agg (partA2 p), iA me, iA now, iA th, callA c] (.tup [.agg (partR (partCall p me now th c).1), .agg [iV (partCall p me now th c).2.1, iV (partCall p me now th c).2.2]]) := by
  by_cases h1 : (partOk p && (inB me 0 2 && inB now 0 1000000)) = true
  · have e1 : partCall p me now th c = (if canCall p now th then (if (doC p me now c).2.1 == 0 then ((doC p me now c).1, 0, (doC p me now c).2.2)
      else (if c.kind == 1 && ((doC p me now c).2.1 == 6 || (doC p me now c).2.1 == 7) then pressP p else p, (doC p me now c).2.1, 0)) else (p, 1, 0)) := if_pos h1
    simp only [Bool.and_eq_true] at h1
    obtain ⟨k1, k2, k3⟩ := h1
    refine VC.go tiOk vtOk [6,9] Tryz.func57 rfl rfl ?_
    conv => whnf
    refine ⟨_, PartOk_v p hb.1, ?_⟩
    conv => whnf
    refine br_f (by rw [k1]; rfl) ?_
    conv => whnf
    refine ⟨_, isPart_v me, ?_⟩
    conv => whnf
    refine br_f (by rw [k2]; rfl) ?_
    conv => whnf
    refine ⟨_, isTime_v now, ?_⟩
    conv => whnf
    refine br_f (by rw [k3]; rfl) ?_
    conv => whnf
    refine ⟨_, CanCall_v p now th hb.1, ?_⟩
    conv => whnf
    by_cases h2 : canCall p now th = true
    · rw [if_pos h2] at e1
      refine br_f (by rw [h2]; rfl) ?_
      conv => whnf
      refine ⟨_, copyPart_v p hb.2.1, ?_⟩
      conv => whnf
      refine VW.call tiOk vtOk true 2 ?_
      conv => whnf
      refine ⟨_, _, do_v p me now th c hb.heap hb.1.2.2.1 (inB_iff.1 k3) hk, ?_⟩
      generalize doC p me now c = r at e1 ⊢
      conv => whnf
      refine br (fun h3 => ?_) (fun h3 => ?_)
      · rw [if_pos h3] at e1
        rw [e1]
        conv => whnf
        repeat (first | (refine ⟨by with_reducible rfl, ?_⟩; conv => whnf) | (refine ⟨rfl, ?_⟩; conv => whnf))
        exact True.intro
      · rw [if_neg (by rw [h3]; simp)] at e1
        conv => whnf
        refine VW.sub (s' := stV 82 [(1, .av (iA me)), (2, .av (iA now)), (3, .av (iA th)), (5, .av (.one (.ptr [5] 0 0))), (9, .av (.one (.ptr [9] 0 0))), (10, .av (.one (.ptr [10] 0 0))), (11, .av (.one (.ptr [11] 0 0))), (13, .av (.one (iV r.2.1)))] [(5, some (.box (partA2 p))), (9, some (.box [iV c.kind, iV c.a, iV c.b, iV c.c, iV c.d, iV c.e])), (10, some (.box partZ)), (11, some (.box [iV 0, iV 0]))]) rfl ?_ ?_
        · conv => whnf
          repeat (first | (refine ⟨by with_reducible rfl, ?_⟩; conv => whnf) | (refine ⟨rfl, ?_⟩; conv => whnf))
          exact True.intro
        refine VW.reg tiOk vtOk ?_
        conv => whnf
        refine ⟨_, copyPart_v p hb.2.1, ?_⟩
        conv => whnf
        by_cases hp : (c.kind == 1 && (r.2.1 == 6 || r.2.1 == 7)) = true
        · rw [if_pos hp] at e1
          rw [e1]
          have hpr : 0 ≤ p.press ∧ p.press ≤ 1000000 := by
            simp only [partOk, Bool.and_eq_true] at k1
            exact inB_iff.1 k1.2.2.2.2.2.2.2.2.2.1
          have e2 : IntKind.i64.wrap (p.press + 1) = p.press + 1 := wrap_in (by omega)
          have e3 : (if 1000000 < IntKind.i64.wrap (p.press + 1) then 1000000 else IntKind.i64.wrap (p.press + 1)) = min (p.press + 1) 1000000 := by rw [e2]; split <;> omega
          repeat' (first | (refine side_le (by (simp [lenW, winL]; omega)) ?_; conv => whnf) | (refine br (fun h => ?_) (fun h => ?_) <;> conv => whnf))
          all_goals first
            | (exfalso; clear e1 e2 e3 hb hpr k1 k2 k3 h2 hk; simp_all; done)
            | skip
          all_goals
            conv => whnf
            repeat (first | (refine ⟨by with_reducible rfl, ?_⟩; conv => whnf) | (refine ⟨congrArg _ e3, ?_⟩; conv => whnf) | (refine ⟨rfl, ?_⟩; conv => whnf))
            exact True.intro
        · rw [if_neg hp] at e1
          rw [e1]
          repeat' (first | (refine side_le (by (simp [lenW, winL]; omega)) ?_; conv => whnf) | (refine br (fun h => ?_) (fun h => ?_) <;> conv => whnf))
          all_goals first
            | (exfalso; clear e1 hb k1 k2 k3 h2 hk; simp_all; done)
            | skip
          all_goals
            conv => whnf
            repeat (first | (refine ⟨by with_reducible rfl, ?_⟩; conv => whnf) | (refine ⟨rfl, ?_⟩; conv => whnf))
            exact True.intro
    · rw [if_neg h2] at e1
      rw [e1]
      refine br_t (by simpa using h2) ?_
      conv => whnf
      refine ⟨_, copyPart_v p hb.2.1, ?_⟩
      conv => whnf
      conv => whnf
      repeat (first | (refine ⟨by with_reducible rfl, ?_⟩; conv => whnf) | (refine ⟨rfl, ?_⟩; conv => whnf))
      exact True.intro
  · have e1 : partCall p me now th c = (p, 2, 0) := if_neg h1
    rw [e1]
    refine VC.go tiOk vtOk [] Tryz.func57 rfl rfl ?_
    conv => whnf
    repeat' (first | (refine ⟨_, PartOk_v p hb.1, ?_⟩; conv => whnf) | (refine ⟨_, isPart_v me, ?_⟩; conv => whnf) | (refine ⟨_, isTime_v now, ?_⟩; conv => whnf) | (refine ⟨_, copyPart_v p hb.2.1, ?_⟩; conv => whnf) | (refine side_le (by (simp [lenW, winL]; omega)) ?_; conv => whnf) | (refine br (fun h => ?_) (fun h => ?_) <;> conv => whnf))
    all_goals first
      | (exfalso; clear e1 hb; simp_all; done)
      | skip
    all_goals
      conv => whnf
      repeat (first | (refine ⟨by with_reducible rfl, ?_⟩; conv => whnf) | (refine ⟨rfl, ?_⟩; conv => whnf))
      exact True.intro

end Go.Proofs.YtiimdlkeikcfiaaGreat.V

namespace Go.Proofs.YtiimdlkeikcfiaaGreat.V
open Go.RowKit M
set_option maxRecDepth 100000
set_option maxHeartbeats 1000000
theorem PartKill_v (p : Part) (now : Int) (hb : partB p) (hc : partCB p) (hp : p.press < 3) : VC Tryz.prog 38 [.agg (partA2 p), iA now] (.av (.agg (partR p))) := by
  refine VC.go tiOk vtOk [] Tryz.func38 rfl rfl ?_
  conv => whnf
  refine ⟨_, copyPart_v p hc, ?_⟩
  conv => whnf
  repeat' (first | (refine ⟨_, PartOk_v p hb, ?_⟩; conv => whnf) | (refine ⟨_, within_v now _ _, ?_⟩; conv => whnf) | (refine side_le (by (simp [lenW, winL]; omega)) ?_; conv => whnf) | (refine br (fun h => ?_) (fun h => ?_) <;> conv => whnf))
  all_goals first
    | (exfalso; clear hb hc; simp_all; done)
    | (exfalso; clear hb hc; simp_all; omega)
    | skip
  all_goals
    conv => whnf
    repeat (first | (refine ⟨by with_reducible rfl, ?_⟩; conv => whnf) | (refine ⟨rfl, ?_⟩; conv => whnf))
    exact True.intro
theorem PartWake_v (p : Part) (me now : Int) (hb : partB p) (hc : partCB p) (hw : ∀ o ∈ p.heap.arena, o.wait ≤ 0) : VC Tryz.prog 37 [.agg (partA2 p), iA me, iA now] (.av (.agg (partR p))) := by
  refine VC.go tiOk vtOk [] Tryz.func37 rfl rfl ?_
  conv => whnf
  refine ⟨_, copyPart_v p hc, ?_⟩
  conv => whnf
  refine ⟨_, PartOk_v p hb, ?_⟩
  conv => whnf
  refine br (fun h1 => ?_) (fun h1 => ?_)
  · conv => whnf
    repeat (first | (refine ⟨by with_reducible rfl, ?_⟩; conv => whnf) | (refine ⟨rfl, ?_⟩; conv => whnf))
    exact True.intro
  conv => whnf
  refine ⟨_, isPart_v me, ?_⟩
  conv => whnf
  refine br (fun h2 => ?_) (fun h2 => ?_)
  · conv => whnf
    repeat (first | (refine ⟨by with_reducible rfl, ?_⟩; conv => whnf) | (refine ⟨rfl, ?_⟩; conv => whnf))
    exact True.intro
  conv => whnf
  have hbl := hb.2.2.2.1.1
  refine goV_loop tiOk vtOk [] (fun k : Nat => stV 59 [(1, .av (iA me)), (2, .av (iA now)), (3, .av (.one (.ptr [3] 0 0))), (6, .av (.one (.ptr [6] 0 0))), (7, .av (.one (.ptr [7] 0 0))), (23, .av (.one (.ro .obj p.heap.arena))), (24, .av (.one (iV p.heap.arena.length))), (25, .av (.one (iV k)))] [(3, some (.box (partA2 p))), (6, some (.box partZ)), (7, some (.box (partR p)))]) (fun k => k ≤ p.heap.arena.length) (fun k => p.heap.arena.length - k) 0 (Nat.zero_le _) rfl ?_ fun k hj => ?_
  · conv => whnf
    repeat (first | (refine ⟨by with_reducible rfl, ?_⟩; conv => whnf) | (refine ⟨rfl, ?_⟩; conv => whnf))
    exact True.intro
  conv => whnf
  refine br (fun h => ?_) (fun h => ?_)
  · have hk : k < p.heap.arena.length := by simpa using h
    have hx := hw _ (getD_mem (d := d0 .obj) hk)
    conv => whnf
    refine side_lt hk ?_
    conv => whnf
    refine br_f (by simpa [offN] using hx) ?_
    conv => whnf
    refine ⟨k + 1, hk, by omega, rfl, ?_⟩
    conv => whnf
    repeat (first | (refine ⟨by with_reducible rfl, ?_⟩; conv => whnf) | (refine ⟨congrArg _ (wrap_nat k (by omega)), ?_⟩; conv => whnf) | (refine ⟨rfl, ?_⟩; conv => whnf))
    exact True.intro
  · conv => whnf
    repeat (first | (refine ⟨by with_reducible rfl, ?_⟩; conv => whnf) | (refine ⟨rfl, ?_⟩; conv => whnf))
    exact True.intro

end Go.Proofs.YtiimdlkeikcfiaaGreat.V

namespace Go.Proofs.YtiimdlkeikcfiaaGreat.V
open Go.RowKit M
set_option maxRecDepth 100000
set_option maxHeartbeats 1000000
def coll1 (now : Int) (s : Part × Int) : Part × Int :=
  if 0 ≤ (gcStepG s.1.heap now).2 then (⟨s.1.label, s.1.own, (backT s.1.tree (s.1.heap.arena.getD (gcStepG s.1.heap now).2.toNat (d0 .obj)).res ⟨(s.1.heap.arena.getD (gcStepG s.1.heap now).2.toNat (d0 .obj)).pages, 0, 0⟩).1, (gcStepG s.1.heap now).1, s.1.taps, s.1.next, s.1.want, s.1.spent, s.1.press, s.1.lost⟩, s.2 + 1)
  else (⟨s.1.label, s.1.own, s.1.tree, (gcStepG s.1.heap now).1, s.1.taps, s.1.next, s.1.want, s.1.spent, s.1.press, s.1.lost⟩, s.2)
def collN (now : Int) (p : Part) : Nat → Part × Int
  | 0 => (p, 0)
  | n + 1 => coll1 now (collN now p n)
theorem gcStep_in {H : Heap} {now : Int} (h : 0 ≤ (gcStepG H now).2) : (gcStepG H now).2.toNat < H.arena.length := by
  unfold gcStepG at h ⊢
  split at h
  · rename_i e
    rw [if_pos e]
    have hl := arenaOk_len (heapOk_arena e)
    split at h
    · rename_i e2
      rw [if_pos e2]
      have := (heapOk_at e).1 (by simpa using e2)
      simp only [sweepG] at h ⊢
      split at h
      · rename_i e3
        rw [if_pos e3]
        omega
      · exact absurd h (show ¬ (0 : Int) ≤ -1 by decide)
    · split at h
      · exact absurd h (show ¬ (0 : Int) ≤ -1 by decide)
      · split at h
        · exact absurd h (show ¬ (0 : Int) ≤ -1 by decide)
        · exact absurd h (show ¬ (0 : Int) ≤ -1 by decide)
  · exact absurd h (show ¬ (0 : Int) ≤ -1 by decide)
theorem collN_cnt {now : Int} {p : Part} : ∀ n, 0 ≤ (collN now p n).2 ∧ (collN now p n).2 ≤ n
  | 0 => ⟨Int.le_refl _, Int.le_refl _⟩
  | n + 1 => by
    have := collN_cnt (now := now) (p := p) n
    show 0 ≤ (coll1 now (collN now p n)).2 ∧ (coll1 now (collN now p n)).2 ≤ _
    unfold coll1
    split <;> (simp only; omega)
def collB (now : Int) (p : Part) (n : Nat) : Prop := ∀ k, k < n → heapB (collN now p k).1.heap ∧ (collN now p k).1.tree.length ≤ 1000000000
theorem PartCollect_v (p : Part) (now steps : Int) (hb : partB p) (hc : partCB p) (hs : 0 ≤ steps ∧ steps ≤ 100) (hok : partOk p = true) (hB : collB now p steps.toNat) : VC Tryz.prog 39 [.agg (partA2 p), iA now, iA steps] (.tup [.agg (partR (collN now p steps.toNat).1), iA (collN now p steps.toNat).2]) := by
  obtain ⟨n, rfl⟩ : ∃ n : Nat, steps = (n : Int) := ⟨steps.toNat, by omega⟩
  have en : ((n : Int)).toNat = n := by omega
  rw [en] at hB ⊢
  have hn : n ≤ 100 := by omega
  refine VC.go tiOk vtOk [5] Tryz.func39 rfl rfl ?_
  conv => whnf
  refine ⟨_, copyPart_v p hc, ?_⟩
  conv => whnf
  refine ⟨_, PartOk_v p hb, ?_⟩
  conv => whnf
  refine br_f (by rw [hok]; rfl) ?_
  conv => whnf
  refine ⟨_, within_v _ _ _, ?_⟩
  conv => whnf
  refine br_f (by rw [show inB (n : Int) 0 100 = true from inB_iff.2 hs]; rfl) ?_
  conv => whnf
  refine VW.reg tiOk vtOk ?_
  conv => whnf
  refine goV_loop tiOk vtOk [7] (fun k : Nat => stV 62 [(1, .av (iA now)), (2, .av (iA n)), (3, .av (.one (.ptr [3] 0 0))), (6, .av (.one (.ptr [6] 0 0))), (8, .av (.one (.ptr [8] 0 0))), (9, .av (.one (iV (collN now p k).2))), (25, .av (.one (iV n))), (26, .av (.one (iV k)))] [(3, some (.box (partA2 p))), (6, some (.box partZ)), (8, some (.box (partR (collN now p k).1)))]) (fun k => k ≤ n) (fun k => n - k) 0 (Nat.zero_le _) rfl ?_ fun k hj => ?_
  · conv => whnf
    repeat (first | (refine ⟨by with_reducible rfl, ?_⟩; conv => whnf) | (refine ⟨rfl, ?_⟩; conv => whnf))
    exact True.intro
  conv => whnf
  refine br (fun h => ?_) (fun h => ?_)
  · have hk : k < n := by simpa using h
    have hbk := hB k hk
    have hcn := collN_cnt (now := now) (p := p) k
    have hstep : collN now p (k + 1) = coll1 now (collN now p k) := rfl
    generalize collN now p k = S at hbk hstep hcn
    obtain ⟨P, c⟩ := S
    simp only at hbk hcn
    conv => whnf
    refine VW.raw tiOk vtOk ?_
    conv => whnf
    refine ⟨_, GcStep_v P.heap now hbk.1, ?_⟩
    conv => whnf
    have hin := gcStep_in (H := P.heap) (now := now)
    unfold coll1 at hstep
    simp only at hstep
    generalize gcStepG P.heap now = g at *
    by_cases hi : 0 ≤ g.2
    · rw [if_pos hi] at hstep
      have hin := hin hi
      refine br_t (by simpa using hi) ?_
      conv => whnf
      refine idx_of hi ?_
      conv => whnf
      refine side_lt hin ?_
      conv => whnf
      refine ⟨_, AmtOne_v _ _, ?_⟩
      conv => whnf
      refine ⟨_, TreeBack_v P.tree _ _ hbk.2, ?_⟩
      conv => whnf
      have e1 : IntKind.i64.wrap (c + 1) = c + 1 := wrap_in (by omega)
      refine ⟨k + 1, hk, by omega, rfl, ?_⟩
      rw [hstep]
      conv => whnf
      repeat (first | (refine ⟨by with_reducible rfl, ?_⟩; conv => whnf) | (refine ⟨congrArg _ (wrap_nat k (by omega)), ?_⟩; conv => whnf) | (refine ⟨congrArg _ e1, ?_⟩; conv => whnf) | (refine ⟨rfl, ?_⟩; conv => whnf))
      exact True.intro
    · rw [if_neg hi] at hstep
      refine br_f (by simpa using hi) ?_
      conv => whnf
      refine ⟨k + 1, hk, by omega, rfl, ?_⟩
      rw [hstep]
      conv => whnf
      repeat (first | (refine ⟨by with_reducible rfl, ?_⟩; conv => whnf) | (refine ⟨congrArg _ (wrap_nat k (by omega)), ?_⟩; conv => whnf) | (refine ⟨rfl, ?_⟩; conv => whnf))
      exact True.intro
  · have e : k = n := by simp at h; omega
    rw [e]
    conv => whnf
    repeat (first | (refine ⟨by with_reducible rfl, ?_⟩; conv => whnf) | (refine ⟨rfl, ?_⟩; conv => whnf))
    exact True.intro

end Go.Proofs.YtiimdlkeikcfiaaGreat.V

namespace Go.Proofs.YtiimdlkeikcfiaaGreat.V
open Go.RowKit M
set_option maxRecDepth 100000
set_option maxHeartbeats 1000000
def objX (o : Obj) (j : Nat) : MV :=
  match j with
  | 5 => .v (.int .i64 o.pages)
  | _ => .any
theorem nr_objX (o : Obj) (j : Nat) : NoRef (objX o j) := by unfold objX; split <;> first | exact .v | exact .any
theorem ro_i64 {x : Obj} {g : Obj → List Int} {p : List Int → Obj → Obj} : encC 3 false (t := .obj) (.sl .i64 g p) x = canC (.ro .i64 (g x)) :=
  congrArg (MV.tr false 1 _) (funext fun i => funext fun j => by match j with | 0 => rfl | j + 1 => rfl)
theorem ro_msg {x : Obj} {g : Obj → List Msg} {p : List Msg → Obj → Obj} : encC 3 false (t := .obj) (.sl .msg g p) x = canC (.ro .msg (g x)) :=
  congrArg (MV.tr false 2 _) (funext fun i => funext fun j => by match j with | 0 => rfl | 1 => rfl | j + 2 => rfl)
/-- The arguments of a call, one by one (as in XMEnc). -/
def FrzL (ft : List Nat) (bl : Nat → Option Blk) (vr : Nat → Nat) (tm : Nat → MV) : List Operand → List MV → Prop
  | [], [] => True
  | x :: xs, m :: ms => Frz ft bl vr (evS tm x) m ∧ FrzL ft bl vr tm xs ms
  | _, _ => False

theorem frzL_at {ft : List Nat} {bl : Nat → Option Blk} {vr : Nat → Nat} {tm : Nat → MV} : ∀ {xs : List Operand} {ms : List MV}, FrzL ft bl vr tm xs ms → xs.length = ms.length ∧ ∀ (i : Nat) (m : MV), ms[i]? = some m → ∃ x, xs[i]? = some x ∧ Frz ft bl vr (evS tm x) m
  | [], [], _ => ⟨rfl, fun i m h => by simp at h⟩
  | x :: xs, m :: ms, ⟨h1, h2⟩ => by
    obtain ⟨a1, a2⟩ := frzL_at h2
    refine ⟨by simp [a1], fun i m' hm => ?_⟩
    cases i with
    | zero =>
      simp only [List.getElem?_cons_zero, Option.some.injEq] at hm
      subst hm
      exact ⟨x, rfl, h1⟩
    | succ i => simpa using a2 i m' (by simpa using hm)

theorem frzL_ok {ft : List Nat} {bl : Nat → Option Blk} {vr : Nat → Nat} {tm : Nat → MV} {args : Array Operand} {ms : List MV} (h : FrzL ft bl vr tm args.toList ms) :
    args.size = ms.length ∧ ∀ (i : Nat) (m : MV), ms[i]? = some m → ∃ x, args[i]? = some x ∧ Frz ft bl vr (evS tm x) m := by
  obtain ⟨a1, a2⟩ := frzL_at h
  exact ⟨by simpa using a1, fun i m hm => by simpa using a2 i m hm⟩

theorem lt13 {p : Nat → Prop} (h0 : p 0) (h1 : p 1) (h2 : p 2) (h3 : p 3) (h4 : p 4) (h5 : p 5) (h6 : p 6) (h7 : p 7) (h8 : p 8) (h9 : p 9) (h10 : p 10) (h11 : p 11) (h12 : p 12) : ∀ j, j < 13 → p j
  | 0, _ => h0
  | 1, _ => h1
  | 2, _ => h2
  | 3, _ => h3
  | 4, _ => h4
  | 5, _ => h5
  | 6, _ => h6
  | 7, _ => h7
  | 8, _ => h8
  | 9, _ => h9
  | 10, _ => h10
  | 11, _ => h11
  | 12, _ => h12
  | n + 13, h => absurd h (by omega)

theorem frz_obj {ft : List Nat} {bl : Nat → Option Blk} {vr : Nat → Nat} {l : List Obj} {k : Nat} {m m' : MV} : ∀ j, j < 13 → m = encRow false .obj l k j → m' = canL (objA (l.getD k (d0 .obj))) j → Frz ft bl vr m m' := by
  have key : ∀ j, j < 13 → Frz ft bl vr (encRow false .obj l k j) (canL (objA (l.getD k (d0 .obj))) j) := lt13 .v .v .v .v .v .v .v .v .v .v (by (show Frz _ _ _ (encC 3 false (t := .obj) (.sl .i64 Obj.links Obj.w10) (l.getD k (d0 .obj))) _; rw [ro_i64]; exact .same)) (by (show Frz _ _ _ (encC 3 false (t := .obj) (.sl .i64 Obj.data Obj.w11) (l.getD k (d0 .obj))) _; rw [ro_i64]; exact .same)) (by (show Frz _ _ _ (encC 3 false (t := .obj) (.sl .msg Obj.queue Obj.w12) (l.getD k (d0 .obj))) _; rw [ro_msg]; exact .same))
  intro j hj e1 e2
  subst e1 e2
  exact key j hj
theorem firstThings_t (p : Part) (hb : arenaB p.heap.arena) (hl : p.heap.arena.length = 10) (ho : ∀ o ∈ p.heap.arena, objOk o = true) : TC Tryz.prog 24 [canA (.agg (partA p))] (.tr true 13 p.heap.arena.length (fun i j => objX (p.heap.arena.getD i (d0 .obj)) j)) := by
  have : NRL [canA (.agg (partA p))] := ⟨fun m hm => by rw [List.mem_singleton] at hm; subst hm; exact canA_noref _⟩
  refine TC.go tiOk Tryz.func24 rfl rfl ?_
  have e0 : (if (10 : Int) < (p.heap.arena.length : Int) then (10 : Int) else (p.heap.arena.length : Int)) = ((10 : Nat) : Int) := by rw [hl]; decide
  conv => whnf
  rw [e0]
  conv => whnf
  refine side_le (by rw [hl]; decide) ?_
  conv => whnf
  generalize p.heap.arena = l at *
  have nr : NoRef (.tr false 13 10 (fun i j => encRow false .obj l (0 + i) j)) := .tr (fun i j _ _ => row_noref _ _ _ _)
  refine goC_loop tiOk (fun k => stL 29 [(3, .ref [6] 0 13 0 k), (15, .tr false 13 10 (fun i j => encRow false .obj l (0 + i) j)), (16, .v (.int .i64 10)), (17, .v (.int .i64 ((k : Nat) : Int)))] [(6, ⟨13, k, fun i j => objX (l.getD i (d0 .obj)) j⟩)]) (fun k => k ≤ 10) (fun k => 10 - k) 0 (by omega) (GS.lists ⟨.ref rfl rfl rfl rfl rfl, .noref nr, .v rfl, .v rfl, trivial⟩ ⟨⟨rfl, rfl, fun i j hi _ => absurd hi (Nat.not_lt_zero i)⟩, trivial⟩ rfl) fun k hj => ?_
  conv => whnf
  refine br (fun h => ?_) (fun h => ?_)
  · have hk : k < 10 := by have := of_decide_eq_true h; omega
    have hkl : k < l.length := by omega
    have ho := ho _ (getD_mem (d := d0 .obj) hkl)
    have hx := hb.2 _ (getD_mem (d := d0 .obj) hkl)
    conv => whnf
    refine side_lt hk ?_
    conv => whnf
    refine side_lt hk ?_
    conv => whnf
    refine ⟨_, _, ObjOk_v (l.getD k (d0 .obj)) hx.1 hx.2, frzL_ok ⟨.agg fun j hj => ?_, trivial⟩, rfl, ?_⟩
    · refine frz_obj j hj ?_ rfl
      simp only [Nat.zero_add]
      revert j
      exact lt13 rfl rfl rfl rfl rfl rfl rfl rfl rfl rfl rfl rfl rfl
    conv => whnf
    rw [ho]
    conv => whnf
    refine side_le (by simp) ?_
    conv => whnf
    refine side_le (by simp; omega) ?_
    conv => whnf
    refine ⟨k + 1, hk, by omega, ?_⟩
    refine GS.lists ⟨.ref rfl rfl rfl rfl rfl, .noref nr, .v rfl, .v (congrArg _ (wrap_nat k (by omega))), trivial⟩ ⟨⟨rfl, rfl, fun i j hi hj => ?_⟩, trivial⟩ rfl
    by_cases e : i = k
    · subst e
      show Rn _ _ (bif Nat.blt i i then _ else _) _
      rw [blt_f (Nat.lt_irrefl i)]
      show Rn _ _ ((fun q j => _) (i - i) j) _
      rw [Nat.sub_self]
      simp only [Nat.zero_add]
      revert j
      exact lt13 .any .any .any .any .any (.v rfl) .any .any .any .any .any .any .any
    · have hi' : i < k := by simp only at hi; omega
      show Rn _ _ (bif Nat.blt i k then _ else _) _
      rw [blt_t hi']
      exact .noref (nr_objX _ _)
  · conv => whnf
    have hk : k = 10 := by have := of_decide_eq_false h; omega
    subst hk
    refine ⟨hl.symm, by rw [hl]; exact Nat.le_refl 10, fun i j hi hj => ?_, True.intro⟩
    revert j
    exact lt13 .any .any .any .any .any .refl .any .any .any .any .any .any .any
theorem lt16 {p : Nat → Prop} (h : ∀ j, j < 13 → p j) (h13 : p 13) (h14 : p 14) (h15 : p 15) (j : Nat) (hj : j < 16) : p j := by
  by_cases e : j < 13
  · exact h j e
  · obtain rfl | rfl | rfl : j = 13 ∨ j = 14 ∨ j = 15 := by omega
    · exact h13
    · exact h14
    · exact h15
def held (l : List Obj) : Int := l.foldl (fun s o => s + o.pages) 0
theorem objOk_pages {o : Obj} (h : objOk o = true) : 0 ≤ o.pages ∧ o.pages ≤ 8 := by
  unfold objOk at h
  simp only [Bool.and_eq_true] at h
  have h := h.2
  split at h
  · simp only [sameO, Bool.and_eq_true, beq_iff_eq] at h
    have : o.pages = 0 := by simp_all
    omega
  · simp only [Bool.and_eq_true, inB_iff] at h
    exact h.1.1.2
theorem held_take {l : List Obj} (ho : ∀ o ∈ l, objOk o = true) : ∀ k, k ≤ l.length → 0 ≤ held (l.take k) ∧ held (l.take k) ≤ 8 * k
  | 0, _ => by simp [held]
  | k + 1, hk => by
    have h1 := held_take ho k (by omega)
    have h2 := objOk_pages (ho _ (getD_mem (d := d0 .obj) (show k < l.length by omega)))
    have e : held (l.take (k + 1)) = held (l.take k) + (l.getD k (d0 .obj)).pages := by
      unfold held
      rw [foldl_take2 _ _ _ _ (d0 .obj) (by omega)]
    rw [e]
    omega
theorem Held_v (p : Part) (hb : arenaB p.heap.arena) (hl : p.heap.arena.length = 10) (ho : ∀ o ∈ p.heap.arena, objOk o = true) : VC Tryz.prog 13 [.agg (partA p)] (iR (held p.heap.arena)) := by
  have : NRL [canA (.agg (partA p))] := ⟨fun m hm => by rw [List.mem_singleton] at hm; subst hm; exact canA_noref _⟩
  show TC _ _ [canA (.agg (partA p))] _
  refine TC.go tiOk Tryz.func13 rfl rfl ?_
  conv => whnf
  refine ⟨_, _, firstThings_t p hb hl ho, frzL_ok ⟨.agg fun j hj => ?_, trivial⟩, rfl, ?_⟩
  · revert j
    exact lt16 (lt13 .same .same .same .same .v .v .v .same .same .v .v .v .v) .v .v .v
  conv => whnf
  generalize p.heap.arena = l at *
  refine goC_loop tiOk (fun k => stL 19 [(3, .v (.int .i64 (held (l.take k)))), (7, .ref [10007] 0 13 0 l.length), (8, .v (.int .i64 (l.length : Nat))), (9, .v (.int .i64 ((k : Nat) : Int)))] [(10007, ⟨13, l.length, fun i j => objX (l.getD i (d0 .obj)) j⟩)]) (fun k => k ≤ l.length) (fun k => l.length - k) 0 (by omega) (GS.lists ⟨.v rfl, .ref rfl rfl rfl rfl rfl, .v rfl, .v rfl, trivial⟩ ⟨⟨rfl, rfl, fun i j hi _ => .noref (nr_objX _ _)⟩, trivial⟩ rfl) fun k hj => ?_
  conv => whnf
  refine br (fun h => ?_) (fun h => ?_)
  · have hk : k < l.length := by have := of_decide_eq_true h; omega
    have hp := objOk_pages (ho _ (getD_mem (d := d0 .obj) hk))
    have ht := held_take ho k (by omega)
    have e : held (l.take (k + 1)) = held (l.take k) + (l.getD k (d0 .obj)).pages := by
      unfold held
      rw [foldl_take2 _ _ _ _ (d0 .obj) hk]
    conv => whnf
    refine side_lt hk ?_
    conv => whnf
    refine side_lt (by simp only [Nat.zero_add]; exact hk) ?_
    conv => whnf
    refine ⟨k + 1, hk, by omega, ?_⟩
    refine GS.lists ⟨.v (congrArg _ ?_), .ref rfl rfl rfl rfl rfl, .v rfl, .v (congrArg _ (wrap_nat k (by omega))), trivial⟩ ⟨⟨rfl, rfl, fun i j hi hj => .noref (nr_objX _ _)⟩, trivial⟩ rfl
    simp only [Nat.zero_add]
    rw [e, wrap_in (by omega)]
  · have hk : k = l.length := by have := of_decide_eq_false h; omega
    subst hk
    rw [List.take_length]
    conv => whnf
    exact ⟨rfl, True.intro⟩

end Go.Proofs.YtiimdlkeikcfiaaGreat.V

namespace Go.Proofs.YtiimdlkeikcfiaaGreat.V
open Go.RowKit M
set_option maxRecDepth 100000
set_option maxHeartbeats 1000000
theorem runGo_mem {last pick : Int} : ∀ {l : List Int} {a b : Int}, runGo last pick l a b ∈ l ∨ runGo last pick l a b = a ∨ runGo last pick l a b = b
  | [], a, b => by
    unfold runGo
    split
    · exact .inr (.inr rfl)
    · exact .inr (.inl rfl)
  | n :: r, a, b => by
    unfold runGo
    split
    · rcases runGo_mem (last := last) (pick := pick) (l := r) (a := a) (b := b) with h | h
      · exact .inl (List.mem_cons_of_mem _ h)
      · exact .inr h
    split
    · exact .inl List.mem_cons_self
    have key := runGo_mem (last := last) (pick := pick) (l := r) (a := if a < 0 || decide (n < a) then n else a) (b := if decide (last < n) && (decide (b < 0) || decide (n < b)) then n else b)
    rcases key with h | h | h
    · exact .inl (List.mem_cons_of_mem _ h)
    · rw [h]
      split
      · exact .inl List.mem_cons_self
      · exact .inr (.inl rfl)
    · rw [h]
      split
      · exact .inl List.mem_cons_self
      · exact .inr (.inr rfl)
def runI (p : Part) (now : Int) : Int := runNext (runnable p now) p.next (p.want - 1)
theorem runI_in {p : Part} {now : Int} (h : ¬ runI p now < 0) : 0 ≤ runI p now ∧ (runI p now).toNat < p.heap.arena.length := by
  have := runGo_mem (last := p.next) (pick := p.want - 1) (l := runnable p now) (a := -1) (b := -1)
  have e : runI p now = runGo p.next (p.want - 1) (runnable p now) (-1) (-1) := rfl
  rw [← e] at this
  rcases this with hm | hm | hm
  · obtain ⟨_, h1, h2, _⟩ := threads_mem ((List.mem_filter.1 hm).1)
    exact ⟨h1, h2⟩
  · omega
  · omega
theorem arenaOk_obj {l : List Obj} (h : arenaOk l = true) {i : Nat} (hi : i < l.length) : objOk (l.getD i (d0 .obj)) = true := by
  have hl := arenaOk_len h
  simp only [arenaOk, Bool.and_eq_true, List.all_eq_true] at h
  have := h.2 i (by simp; omega)
  simp only [slotOk, slotO, Bool.and_eq_true] at this
  exact this.1.1
theorem objOk_ran {o : Obj} (h : objOk o = true) : 0 ≤ o.ran ∧ o.ran ≤ 1000000 := by
  unfold objOk at h
  simp only [Bool.and_eq_true] at h
  have h := h.2
  split at h
  · simp only [sameO, Bool.and_eq_true, beq_iff_eq] at h
    have : o.ran = 0 := by simp_all
    omega
  · simp only [Bool.and_eq_true] at h
    have h := h.2
    split at h
    · simp only [Bool.and_eq_true, inB_iff] at h
      exact h.2
    · simp only [Bool.and_eq_true, beq_iff_eq] at h
      omega
def ranG (p : Part) (i : Int) : Part := ⟨p.label, p.own, (payT p.tree (resOf p (p.heap.arena.getD i.toNat (d0 .obj)).res) (oneA 2 1)).1, ⟨p.heap.arena.set i.toNat (Obj.w8 ((p.heap.arena.getD i.toNat (d0 .obj)).ran + 1) (p.heap.arena.getD i.toNat (d0 .obj))), p.heap.gc⟩, p.taps, i, 0, sumA p.spent (oneA 2 1), p.press, p.lost⟩
def partRun (p : Part) (now : Int) : Part × Int :=
  if partOk p then (if runI p now < 0 then ({ p with want := 0 }, -1) else if p.spent.cpu = 1000000 then ({ p with want := 0 }, -1) else if (p.heap.arena.getD (runI p now).toNat (d0 .obj)).ran = 1000000 then ({ p with want := 0 }, -1) else (ranG p (runI p now), runI p now)) else (p, -1)
theorem PartRun_v (p : Part) (now : Int) (hb : partB p) (hc : partCB p) : VC Tryz.prog 40 [.agg (partA2 p), iA now] (.tup [.agg (partR (partRun p now).1), iA (partRun p now).2]) := by
  by_cases h1 : partOk p = true
  · have eP : partRun p now = (if runI p now < 0 then ({ p with want := 0 }, -1) else if p.spent.cpu = 1000000 then ({ p with want := 0 }, -1) else if (p.heap.arena.getD (runI p now).toNat (d0 .obj)).ran = 1000000 then ({ p with want := 0 }, -1) else (ranG p (runI p now), runI p now)) := if_pos h1
    have hP := h1
    simp only [partOk, Bool.and_eq_true] at hP
    obtain ⟨_, _, _, htr, hh, _, _, hwant, hspent, _, _⟩ := hP
    have hw := inB_iff.1 hwant
    have e1 : IntKind.i64.wrap (p.want - 1) = p.want - 1 := wrap_in (by omega)
    have hln : (runnable p now).length ≤ 1000000000 := by
      have h2 := List.length_filter_le (runAt p) (threads p now)
      have h3 := threads_len p now
      show (List.filter _ _).length ≤ _
      omega
    refine VC.go tiOk vtOk [9,11] Tryz.func40 rfl rfl ?_
    conv => whnf
    refine ⟨_, copyPart_v p hc, ?_⟩
    conv => whnf
    refine ⟨_, PartOk_v p hb, ?_⟩
    conv => whnf
    refine br_f (by rw [h1]; rfl) ?_
    conv => whnf
    refine ⟨_, Runnable_v p now hb, ?_⟩
    conv => whnf
    rw [e1]
    refine ⟨_, RunNext_v (runnable p now) p.next (p.want - 1) hln, ?_⟩
    conv => whnf
    have hin := runI_in (p := p) (now := now)
    generalize hi : runI p now = i at hin eP
    have hi2 : runNext (runnable p now) p.next (p.want - 1) = i := hi
    rw [hi2]
    by_cases h2 : i < 0
    · rw [if_pos h2] at eP
      rw [eP]
      refine br_t (by simpa using h2) ?_
      conv => whnf
      conv => whnf
      repeat (first | (refine ⟨by with_reducible rfl, ?_⟩; conv => whnf) | (refine ⟨rfl, ?_⟩; conv => whnf))
      exact True.intro
    rw [if_neg h2] at eP
    refine br_f (by simpa using h2) ?_
    conv => whnf
    have hin := hin h2
    by_cases h3 : p.spent.cpu = 1000000
    · rw [if_pos h3] at eP
      rw [eP]
      refine br_t (by simpa using h3) ?_
      conv => whnf
      conv => whnf
      repeat (first | (refine ⟨by with_reducible rfl, ?_⟩; conv => whnf) | (refine ⟨rfl, ?_⟩; conv => whnf))
      exact True.intro
    rw [if_neg h3] at eP
    refine br_f (by simpa using h3) ?_
    conv => whnf
    refine idx_of hin.1 ?_
    conv => whnf
    refine side_lt hin.2 ?_
    conv => whnf
    have hro := objOk_ran (arenaOk_obj (partOk_arena h1) hin.2)
    by_cases h4 : (p.heap.arena.getD i.toNat (d0 .obj)).ran = 1000000
    · rw [if_pos h4] at eP
      rw [eP]
      refine br_t (by simpa [offN] using h4) ?_
      conv => whnf
      conv => whnf
      repeat (first | (refine ⟨by with_reducible rfl, ?_⟩; conv => whnf) | (refine ⟨rfl, ?_⟩; conv => whnf))
      exact True.intro
    rw [if_neg h4] at eP
    refine br_f (by simpa [offN] using h4) ?_
    conv => whnf
    refine ⟨_, AmtOne_v 2 1, ?_⟩
    conv => whnf
    refine VW.drw tiOk vtOk rfl ?_
    conv => whnf
    refine idx_of hin.1 ?_
    conv => whnf
    refine side_lt hin.2 ?_
    conv => whnf
    refine ⟨_, ResOf_v p _ (by rw [treeOk_len htr]; decide), ?_⟩
    conv => whnf
    refine ⟨_, TreePay_v p.tree _ (oneA 2 1) (by rw [treeOk_len htr]; decide), ?_⟩
    conv => whnf
    refine ⟨_, sumOf_v p.spent (oneA 2 1) (amtOk_b hspent) (show amtB ⟨0, 0, 1⟩ from ⟨by decide, by decide, by decide⟩), ?_⟩
    conv => whnf
    refine VW.reg tiOk vtOk ?_
    conv => whnf
    repeat' (first | (refine idx_of hin.1 ?_; conv => whnf) | (refine side_lt hin.2 ?_; conv => whnf) | (refine side_le (by (simp [lenW, winL]; omega)) ?_; conv => whnf) | (refine br (fun h => ?_) (fun h => ?_) <;> conv => whnf))
    have e2 : IntKind.i64.wrap ((p.heap.arena.getD i.toNat (d0 .obj)).ran + 1) = (p.heap.arena.getD i.toNat (d0 .obj)).ran + 1 := wrap_in (by omega)
    rw [eP]
    conv => whnf
    repeat (first | (refine ⟨by with_reducible rfl, ?_⟩; conv => whnf) | (refine ⟨congrArg (fun v => p.heap.arena.set i.toNat (Obj.w8 v (p.heap.arena.getD i.toNat (d0 .obj)))) e2, ?_⟩; conv => whnf) | (refine ⟨rfl, ?_⟩; conv => whnf))
    exact True.intro
  · have eP : partRun p now = (p, -1) := if_neg h1
    rw [eP]
    refine VC.go tiOk vtOk [] Tryz.func40 rfl rfl ?_
    conv => whnf
    refine ⟨_, copyPart_v p hc, ?_⟩
    conv => whnf
    refine ⟨_, PartOk_v p hb, ?_⟩
    conv => whnf
    refine br_t (by simpa using h1) ?_
    conv => whnf
    conv => whnf
    repeat (first | (refine ⟨by with_reducible rfl, ?_⟩; conv => whnf) | (refine ⟨rfl, ?_⟩; conv => whnf))
    exact True.intro

end Go.Proofs.YtiimdlkeikcfiaaGreat.V

namespace Go.Proofs.YtiimdlkeikcfiaaGreat.V
open Go.RowKit M
set_option maxRecDepth 100000
set_option maxHeartbeats 1000000
theorem arenaOk_all {l : List Obj} (h : arenaOk l = true) : ∀ o ∈ l, objOk o = true := fun o ho => by
  obtain ⟨i, hi, rfl⟩ := List.getElem_of_mem ho
  have := arenaOk_obj h hi
  rwa [List.getD_eq_getElem?_getD, List.getElem?_eq_getElem hi] at this
def partSum (p : Part) : Amt := sumA ⟨(sumT p.tree).pages + held p.heap.arena, (sumT p.tree).rent, (sumT p.tree).cpu⟩ p.spent
theorem held_b {p : Part} (hok : partOk p = true) : 0 ≤ held p.heap.arena ∧ held p.heap.arena ≤ 80 := by
  have hl := arenaOk_len (partOk_arena hok)
  have := held_take (arenaOk_all (partOk_arena hok)) p.heap.arena.length (Nat.le_refl _)
  rw [List.take_length] at this
  omega
theorem partOk_spent {p : Part} (h : partOk p = true) : amtOk p.spent = true := by
  simp only [partOk, Bool.and_eq_true] at h
  exact h.2.2.2.2.2.2.2.2.1
theorem PartSum_v (p : Part) (hb : partB p) (hok : partOk p = true) : VC Tryz.prog 68 [.agg (partA p)] (.av (.agg (amtC (partSum p)))) := by
  have hs := partOk_spent hok
  have hh := held_b hok
  have ht := sumT_b (t := p.tree)
  have e1 : IntKind.i64.wrap ((sumT p.tree).pages + held p.heap.arena) = (sumT p.tree).pages + held p.heap.arena := wrap_in (by have := ht.1; omega)
  refine VC.go tiOk vtOk [] Tryz.func68 rfl rfl ?_
  conv => whnf
  refine ⟨_, TreeSum_v p.tree (by rw [treeOk_len (partOk_tree hok)]; decide), ?_⟩
  conv => whnf
  refine ⟨_, AmtOk_v p.spent, ?_⟩
  conv => whnf
  refine br_f (by rw [hs]; rfl) ?_
  conv => whnf
  refine ⟨_, Held_v p hb.2.2.2.1 (arenaOk_len (partOk_arena hok)) (arenaOk_all (partOk_arena hok)), ?_⟩
  conv => whnf
  rw [e1]
  refine ⟨_, sumOf_v ⟨(sumT p.tree).pages + held p.heap.arena, (sumT p.tree).rent, (sumT p.tree).cpu⟩ p.spent (by obtain ⟨g1, g2, g3⟩ := ht; exact ⟨by simp only; omega, by simp only; omega, by simp only; omega⟩) (amtOk_b hs), ?_⟩
  conv => whnf
  conv => whnf
  repeat (first | (refine ⟨by with_reducible rfl, ?_⟩; conv => whnf) | (refine ⟨rfl, ?_⟩; conv => whnf))
  exact True.intro
def worldOk1 (now : Int) (p : Part) : Bool := inB now 0 1000000 && (partOk p && amtOk (sumA ⟨0, 0, 0⟩ (partSum p)))
theorem partSum_b {p : Part} (hok : partOk p = true) : amtB (partSum p) := by
  have hs := partOk_spent hok
  have hh := held_b hok
  obtain ⟨g1, g2, g3⟩ := sumT_b (t := p.tree)
  simp only [amtOk, Bool.and_eq_true, inB_iff] at hs
  obtain ⟨⟨h1, h2⟩, h3⟩ := hs
  exact ⟨by simp only [partSum, sumA]; omega, by simp only [partSum, sumA]; omega, by simp only [partSum, sumA]; omega⟩
theorem WorldOk_v (now : Int) (p : Part) (hb : partB p) : VC Tryz.prog 35 [.agg [iV now, .ro .part [p]]] (bR (worldOk1 now p)) := by
  refine VC.go tiOk vtOk [] Tryz.func35 rfl rfl ?_
  conv => whnf
  refine ⟨_, isTime_v now, ?_⟩
  conv => whnf
  refine br (fun h1 => ?_) (fun h1 => ?_)
  · conv => whnf
    exact ⟨congrArg _ (by simp at h1; simp [worldOk1, h1]), True.intro⟩
  have h1 : inB now 0 1000000 = true := by simpa using h1
  conv => whnf
  refine ⟨_, within_v _ _ _, ?_⟩
  conv => whnf
  by_cases hp : partOk p = true
  · have e : worldOk1 now p = amtOk (sumA ⟨0, 0, 0⟩ (partSum p)) := by simp [worldOk1, h1, hp]
    rw [e]
    have hpb := partSum_b hp
    refine goV_loop tiOk vtOk [] (fun b : Bool => stV 35 [(1, .av (.one (.ptr [1] 0 0))), (2, .av (.one (bV false))), (3, .av (.one (.ptr [3] 0 0))), (19, .av (.one (.ro .part [p]))), (20, .av (.one (iV 1))), (21, .av (.one (iV (bif b then 1 else 0))))] [(1, some (.box [iV now, .ro .part [p]])), (3, some (.box (amtC (bif b then sumA ⟨0, 0, 0⟩ (partSum p) else ⟨0, 0, 0⟩))))]) (fun _ => True) (fun b => bif b then 0 else 1) false trivial rfl ?_ fun b hj => ?_
    · conv => whnf
      repeat (first | (refine ⟨by with_reducible rfl, ?_⟩; conv => whnf) | (refine ⟨rfl, ?_⟩; conv => whnf))
      exact True.intro
    cases b
    · conv => whnf
      refine ⟨_, PartOk_v p hb, ?_⟩
      conv => whnf
      refine br_f (by rw [hp]; rfl) ?_
      conv => whnf
      refine ⟨_, PartSum_v p hb hp, ?_⟩
      conv => whnf
      refine ⟨_, sumOf_v ⟨0, 0, 0⟩ (partSum p) ⟨by decide, by decide, by decide⟩ hpb, ?_⟩
      conv => whnf
      refine ⟨true, trivial, by decide, rfl, ?_⟩
      conv => whnf
      repeat (first | (refine ⟨by with_reducible rfl, ?_⟩; conv => whnf) | (refine ⟨rfl, ?_⟩; conv => whnf))
      exact True.intro
    · conv => whnf
      refine ⟨_, AmtOk_v (sumA ⟨0, 0, 0⟩ (partSum p)), ?_⟩
      conv => whnf
      conv => whnf
      repeat (first | (refine ⟨by with_reducible rfl, ?_⟩; conv => whnf) | (refine ⟨rfl, ?_⟩; conv => whnf))
      exact True.intro
  · have e : worldOk1 now p = false := by simp [worldOk1, hp]
    rw [e]
    refine goV_loop tiOk vtOk [] (fun b : Bool => stV 35 [(1, .av (.one (.ptr [1] 0 0))), (2, .av (.one (bV false))), (3, .av (.one (.ptr [3] 0 0))), (19, .av (.one (.ro .part [p]))), (20, .av (.one (iV 1))), (21, .av (.one (iV 0)))] [(1, some (.box [iV now, .ro .part [p]])), (3, some (.box (amtC ⟨0, 0, 0⟩)))]) (fun _ => True) (fun b => 0) false trivial rfl ?_ fun b hj => ?_
    · conv => whnf
      repeat (first | (refine ⟨by with_reducible rfl, ?_⟩; conv => whnf) | (refine ⟨rfl, ?_⟩; conv => whnf))
      exact True.intro
    conv => whnf
    refine ⟨_, PartOk_v p hb, ?_⟩
    conv => whnf
    refine br_t (by simpa using hp) ?_
    conv => whnf
    conv => whnf
    repeat (first | (refine ⟨by with_reducible rfl, ?_⟩; conv => whnf) | (refine ⟨rfl, ?_⟩; conv => whnf))
    exact True.intro

end Go.Proofs.YtiimdlkeikcfiaaGreat.V

namespace Go.Proofs.YtiimdlkeikcfiaaGreat.V
open Go.RowKit M
set_option maxRecDepth 100000
set_option maxHeartbeats 1000000
theorem sArenaOk_v (l : List Obj) (hb : arenaB l) (hok : arenaOk l = true) : VC Tryz.prog 26 [.one (.ro .obj l)] (bR true) := by
  have hl := arenaOk_len hok
  have hok0 := hok
  simp only [arenaOk, Bool.and_eq_true, decide_eq_true_eq, beq_iff_eq, List.all_eq_true] at hok
  obtain ⟨⟨⟨⟨_, g1⟩, g2⟩, g3⟩, g4⟩ := hok
  have h0 : 0 < l.length := by omega
  refine VC.go tiOk vtOk [] Tryz.func26 rfl rfl ?_
  conv => whnf
  refine br_f (by rw [hl]; rfl) ?_
  conv => whnf
  refine side_lt h0 ?_
  conv => whnf
  refine br_f (by simpa [offN] using g1) ?_
  conv => whnf
  refine side_lt h0 ?_
  conv => whnf
  refine br_f (by simpa [offN] using g2) ?_
  conv => whnf
  refine side_lt h0 ?_
  conv => whnf
  refine br_f (by simpa [offN] using g3) ?_
  conv => whnf
  refine goV_loop tiOk vtOk [] (fun k : Nat => stV 102 [(0, .av (.one (.ro .obj l))), (2, .av (.one (bV false))), (3, .av (.one (iV k)))] []) (fun k => k ≤ l.length) (fun k => l.length - k) 0 (Nat.zero_le _) rfl ?_ fun k hj => ?_
  · conv => whnf
    repeat (first | (refine ⟨by with_reducible rfl, ?_⟩; conv => whnf) | (refine ⟨rfl, ?_⟩; conv => whnf))
    exact True.intro
  conv => whnf
  refine br (fun h => ?_) (fun h => ?_)
  · have hk : k < l.length := by simpa using h
    have hs : slotO l k (l.getD k (d0 .obj)) = true := g4 k (by simp; omega)
    obtain ⟨ho, hw⟩ := hb.2 _ (getD_mem (d := d0 .obj) hk)
    have hoo := arenaOk_obj hok0 hk
    have hin := objOk_kind hoo
    have hlk := objOk_links hoo
    simp only [slotO, Bool.and_eq_true, Bool.not_eq_true', List.all_eq_true] at hs
    obtain ⟨⟨_, hs1⟩, hs2⟩ := hs
    conv => whnf
    refine side_lt hk ?_
    conv => whnf
    refine ⟨_, sObjOk_v _ ho hw hoo, ?_⟩
    conv => whnf
    have hin3 : (l.getD k (d0 .obj)).kind ≠ 0 → 0 ≤ (l.getD k (d0 .obj)).inn → (l.getD k (d0 .obj)).inn.toNat < l.length := fun e e2 => by have := (hin e).1; omega
    have hL : (l.getD k (d0 .obj)).links.length ≤ 1000000000 := ho.1
    clear hin hw ho
    repeat' (first | (refine side_lt hk ?_; conv => whnf) | (refine side_lt (hin3 (by simp [offN] at *; omega) (by simp [offN] at *; omega)) ?_; conv => whnf) | (refine idx_of (by simp [offN] at *; omega) ?_; conv => whnf) | (refine side_le (by (simp [lenW, winL]; omega)) ?_; conv => whnf) | (refine br (fun h => ?_) (fun h => ?_) <;> conv => whnf))
    all_goals first
      | (exfalso; clear hs2 hlk g4 hb hin3; simp_all [kindAt, offN]; done)
      | skip
    all_goals
      clear hs1 hin3
      refine goV_loop tiOk vtOk [] (fun k2 : Nat => stV 102 [(0, .av (.one (.ro .obj l))), (2, .av (.one (bV false))), (3, .av (.one (iV k))), (4, .av (.one (iV k2)))] []) (fun k2 => k2 ≤ (l.getD k (d0 .obj)).links.length) (fun k2 => (l.getD k (d0 .obj)).links.length - k2) 0 (Nat.zero_le _) rfl ?_ fun k2 hj => ?_
      focus
        conv => whnf
        repeat (first | (refine ⟨by with_reducible rfl, ?_⟩; conv => whnf) | (refine ⟨rfl, ?_⟩; conv => whnf))
        exact True.intro
      conv => whnf
      refine side_lt hk ?_
      conv => whnf
      refine br (fun h => ?_) (fun h => ?_)
      focus
        have hk2 : k2 < (l.getD k (d0 .obj)).links.length := by simpa [offN] using h
        have hx := hs2 _ (getD_mem (d := (0 : Int)) hk2)
        have hq : inB ((l.getD k (d0 .obj)).links.getD k2 (0 : Int)) (-1) 9 = true := List.all_eq_true.1 hlk _ (getD_mem hk2)
        have hq3 : 0 ≤ (l.getD k (d0 .obj)).links.getD k2 (0 : Int) → ((l.getD k (d0 .obj)).links.getD k2 (0 : Int)).toNat < l.length := fun e => by have := (inB_iff.1 hq).2; omega
        conv => whnf
        refine side_lt hk ?_
        conv => whnf
        refine side_lt hk2 ?_
        conv => whnf
        generalize hqe : (l.getD k (d0 .obj)).links.getD k2 (0 : Int) = q at hx hq hq3
        by_cases hq0 : 0 ≤ q
        · have hx2 : (l.getD q.toNat (d0 .obj)).kind ≠ 0 := by
            intro e
            have e2 : kindAt l q = 0 := e
            rw [e2] at hx
            simp [hq0] at hx
          refine br_t (by simpa using hq0) ?_
          conv => whnf
          refine idx_of hq0 ?_
          conv => whnf
          refine side_lt (hq3 hq0) ?_
          conv => whnf
          refine br_f (by simpa [offN] using hx2) ?_
          conv => whnf
          refine ⟨k2 + 1, hk2, by omega, rfl, ?_⟩
          conv => whnf
          repeat (first | (refine ⟨by with_reducible rfl, ?_⟩; conv => whnf) | (refine ⟨congrArg _ (wrap_nat k2 (by omega)), ?_⟩; conv => whnf) | (refine ⟨rfl, ?_⟩; conv => whnf))
          exact True.intro
        · refine br_f (by simpa using hq0) ?_
          conv => whnf
          refine ⟨k2 + 1, hk2, by omega, rfl, ?_⟩
          conv => whnf
          repeat (first | (refine ⟨by with_reducible rfl, ?_⟩; conv => whnf) | (refine ⟨congrArg _ (wrap_nat k2 (by omega)), ?_⟩; conv => whnf) | (refine ⟨rfl, ?_⟩; conv => whnf))
          exact True.intro
      conv => whnf
      refine ⟨k + 1, hk, by omega, rfl, ?_⟩
      conv => whnf
      repeat (first | (refine ⟨by with_reducible rfl, ?_⟩; conv => whnf) | (refine ⟨congrArg _ (wrap_nat k (by omega)), ?_⟩; conv => whnf) | (refine ⟨rfl, ?_⟩; conv => whnf))
      exact True.intro
  · conv => whnf
    conv => whnf
    repeat (first | (refine ⟨by with_reducible rfl, ?_⟩; conv => whnf) | (refine ⟨rfl, ?_⟩; conv => whnf))
    exact True.intro
theorem sEdges_v (l : List Obj) (i : Nat) (hb : arenaB l) (hok : arenaOk l = true) (hi : i < l.length) (hk0 : (l.getD i (d0 .obj)).kind ≠ 0) : VC Tryz.prog 61 [.one (.ro .obj l), iA i] (.av (.one (.own .i64 true (edgesN l i l.length) []))) := by
  have hl := arenaOk_len hok
  have hlk := (hb.2 _ (getD_mem (d := d0 .obj) hi)).1.1
  refine VC.go tiOk vtOk [] Tryz.func61 rfl rfl ?_
  conv => whnf
  refine ⟨_, sArenaOk_v l hb hok, ?_⟩
  conv => whnf
  refine ⟨_, l8Slot_v i, ?_⟩
  conv => whnf
  refine br_f (by rw [show inB (i : Int) 0 9 = true from inB_iff.2 (by omega)]; rfl) ?_
  conv => whnf
  refine side_lt hi ?_
  conv => whnf
  refine br_f (by simpa [offN] using hk0) ?_
  conv => whnf
  refine goV_loop tiOk vtOk [] (fun k : Nat => stV 72 [(0, .av (.one (.ro .obj l))), (1, .av (iA i)), (4, .av (.one (.sc (.slice none 0 0)))), (5, .av (.one (.ref [7] .i64 none))), (6, .av (.one (iV k)))] [(7, some (.rows .i64 true (edgesN l i k) []))]) (fun k => k ≤ l.length) (fun k => l.length - k) 0 (Nat.zero_le _) rfl ?_ fun k hj => ?_
  · conv => whnf
    repeat (first | (refine ⟨by with_reducible rfl, ?_⟩; conv => whnf) | (refine ⟨rfl, ?_⟩; conv => whnf))
    exact True.intro
  conv => whnf
  refine br (fun h => ?_) (fun h => ?_)
  · have hk : k < l.length := by simpa using h
    have hle := edgesN_len l i k
    have he : edgeAt l i k = ((decide ((0 : Int) < k) && (l.getD k (d0 .obj)).kind != 0 && (l.getD k (d0 .obj)).inn == (i : Int) && (l.getD i (d0 .obj)).kind == 1) || (l.getD i (d0 .obj)).links.contains (k : Int)) := by simp [edgeAt]
    clear hb hok
    conv => whnf
    by_cases hed : edgeAt l i k = true
    · repeat' (first | (refine side_lt hk ?_; conv => whnf) | (refine side_lt hi ?_; conv => whnf) | (refine ⟨_, l4Has_v _ _ hlk, ?_⟩; conv => whnf) | (refine side_le (by (simp [lenW, winL]; omega)) ?_; conv => whnf) | (refine br (fun h => ?_) (fun h => ?_) <;> conv => whnf))
      all_goals first
        | (exfalso; rw [he] at hed; clear hlk hle hi he hk0 hl hj; simp_all [offN]; done)
        | (refine ⟨k + 1, hk, by omega, rfl, ?_⟩; rw [edgesN_succ, if_pos hed]; (conv => whnf); (repeat (first | (refine ⟨by with_reducible rfl, ?_⟩; conv => whnf) | (refine ⟨congrArg _ (wrap_nat k (by omega)), ?_⟩; conv => whnf) | (refine ⟨rfl, ?_⟩; conv => whnf))); exact True.intro)
    · repeat' (first | (refine side_lt hk ?_; conv => whnf) | (refine side_lt hi ?_; conv => whnf) | (refine ⟨_, l4Has_v _ _ hlk, ?_⟩; conv => whnf) | (refine side_le (by (simp [lenW, winL]; omega)) ?_; conv => whnf) | (refine br (fun h => ?_) (fun h => ?_) <;> conv => whnf))
      all_goals first
        | (exfalso; rw [he] at hed; clear hlk hle hi he hk0 hl hj; simp_all [offN]; done)
        | (refine ⟨k + 1, hk, by omega, rfl, ?_⟩; rw [edgesN_succ, if_neg hed]; (conv => whnf); (repeat (first | (refine ⟨by with_reducible rfl, ?_⟩; conv => whnf) | (refine ⟨congrArg _ (wrap_nat k (by omega)), ?_⟩; conv => whnf) | (refine ⟨rfl, ?_⟩; conv => whnf))); exact True.intro)
  · conv => whnf
    have e : k = l.length := by simp at h; omega
    subst e
    conv => whnf
    repeat (first | (refine ⟨by with_reducible rfl, ?_⟩; conv => whnf) | (refine ⟨rfl, ?_⟩; conv => whnf))
    exact True.intro

end Go.Proofs.YtiimdlkeikcfiaaGreat.V

namespace Go.Proofs.YtiimdlkeikcfiaaGreat.M
open Go.RowKit
section
variable {P : Program} {T : TyT} {ops : Array Oper}
def depTB (ops : Array Oper) (n : Nat) (o : Oper) (i : Nat) : Bool :=
  match n with
  | 0 => false
  | n + 1 => o.after.toList.any fun e => Region.binds .any e && (Nat.beq e.on i || match ops[e.on]? with
    | some z => depTB ops n z i
    | none => false)
structure Chk2 (ops : Array Oper) (L : List It) : Prop where
  pw : L.Pairwise fun x y => x.i < y.i ∧ (depTB ops 3 y.o x.i = true ∨ Indep ops x y)
  lt : ∀ x ∈ L, ∀ e ∈ x.o.after, Region.binds .any e = true → e.on < x.i
theorem Chk2.sub {L L' : List It} (h : Chk2 ops L) (hs : L'.Sublist L) : Chk2 ops L' := ⟨h.pw.sublist hs, fun x hx => h.lt x (hs.subset hx)⟩
def DC (ops : Array Oper) (L : List It) : Prop := ∀ y ∈ L, ∀ (k : Nat) (o : Oper), ops[k]? = some o → ∀ e ∈ o.after, Region.binds .any e = true → e.on = y.i → ∃ z ∈ L, z.i = k
theorem DC.trans {L : List It} (h : DC ops L) {y : It} (hy : y ∈ L) : ∀ (n k : Nat) (o : Oper), ops[k]? = some o → depTB ops n o y.i = true → ∃ e ∈ o.after, Region.binds .any e = true ∧ ∃ z ∈ L, z.i = e.on
  | 0, k, o, _, hd => by cases hd
  | n + 1, k, o, ho, hd => by
    simp only [depTB, List.any_eq_true, Bool.and_eq_true, Bool.or_eq_true] at hd
    obtain ⟨e, he, hb, hd⟩ := hd
    replace he : e ∈ o.after := by simpa using he
    refine ⟨e, he, hb, ?_⟩
    rcases hd with hd | hd
    · exact ⟨y, hy, (Nat.eq_of_beq_eq_true hd).symm⟩
    · split at hd
      · rename_i z hz
        obtain ⟨e2, he2, hb2, z2, hz2, hi2⟩ := DC.trans h hy n e.on z hz hd
        exact h z2 hz2 e.on z hz e2 he2 hb2 hi2.symm
      · cases hd
theorem runs_any2 {Q : Exit → Act → World → Prop} {w0 : World} {O : Own} {s' : St} (hK : ∀ a w G, Inv w0 O s' a w G → Q .normal a w) : ∀ (fuel : Nat) (listed : Array Bool) (L : List It) (s : St) (a : Act) (w : World) (G : Gh), listed.size = ops.size →
    (∀ i, i < ops.size → (listed.getD i true = false ↔ ∃ x ∈ L, x.i = i)) → L.length ≤ fuel → DC ops L → Chk2 ops L → Runs P ops L s s' → Inv w0 O s a w G → wpAny P .any ops Q fuel listed a w := by
  -- an operation that may come next
  have ready : ∀ {listed : Array Bool} {i : Nat}, i ∈ Region.ready .any ops listed → i < ops.size ∧ listed.getD i true = false ∧ ∀ o, ops[i]? = some o → ∀ e ∈ o.after, Region.binds .any e = true → listed.getD e.on false = true := by
    intro listed i hi
    simp only [Region.ready, List.mem_filter, List.mem_range, Bool.and_eq_true, Bool.not_eq_true'] at hi
    refine ⟨hi.1, hi.2.1, fun o ho e he hb => ?_⟩
    have := hi.2.2
    rw [ho] at this
    simp only [Option.map_some, Option.getD_some] at this
    have := (Array.all_eq_true_iff_forall_mem.1 this) e he
    rw [hb] at this
    simpa using this
  have mem_lt : ∀ {L : List It} {s s' : St}, Runs P ops L s s' → ∀ x ∈ L, ops[x.i]? = some x.o := by
    intro L
    induction L with
    | nil => intro s s' _ x hx; cases hx
    | cons y L ih =>
      intro s s' h x hx
      rcases List.mem_cons.1 hx with rfl | hx
      · exact h.1.1
      · exact ih h.2 x hx
  have nonempty : ∀ {listed : Array Bool} {L : List It} {s : St}, listed.size = ops.size → (∀ i, i < ops.size → (listed.getD i true = false ↔ ∃ x ∈ L, x.i = i)) → Chk2 ops L → Runs P ops L s s' → Region.ready .any ops listed = [] → L = [] := by
    intro listed L s hsz hl hc hr hn
    cases L with
    | nil => rfl
    | cons x L =>
      exfalso
      have hx := hr.1.1
      have hlt : x.i < ops.size := by
        have := (Array.getElem?_eq_some_iff.1 hx).1
        exact this
      have : x.i ∈ Region.ready .any ops listed := by
        simp only [Region.ready, List.mem_filter, List.mem_range, Bool.and_eq_true, Bool.not_eq_true']
        refine ⟨hlt, (hl x.i hlt).2 ⟨x, by simp, rfl⟩, ?_⟩
        rw [hx]
        simp only [Option.map_some, Option.getD_some]
        refine Array.all_eq_true_iff_forall_mem.2 fun e he => ?_
        cases hb : Region.binds .any e with
        | false => rfl
        | true =>
          have hon := hc.lt x (by simp) e he hb
          have hon2 : e.on < ops.size := by omega
          have : listed.getD e.on true = true := by
            cases h : listed.getD e.on true with
            | true => rfl
            | false =>
              obtain ⟨y, hy, hyi⟩ := (hl e.on hon2).1 h
              rcases List.mem_cons.1 hy with rfl | hy
              · omega
              · have := (List.pairwise_cons.1 hc.pw).1 y hy
                omega
          have h2 : listed.getD e.on false = true := by
            have hlt' : e.on < listed.size := by omega
            simp [Array.getD_eq_getD_getElem?, hlt'] at this ⊢
            exact this
          simp [h2]
      rw [hn] at this
      cases this
  intro fuel
  induction fuel with
  | zero =>
    intro listed L s a w G hsz hl hlen hdc hc hr hI
    obtain rfl : L = [] := List.eq_nil_of_length_eq_zero (by omega)
    refine ⟨?_, hK a w G (hr ▸ hI)⟩
    refine List.eq_nil_iff_forall_not_mem.2 fun i hi => ?_
    obtain ⟨h1, h2, _⟩ := ready hi
    obtain ⟨x, hx, _⟩ := (hl i h1).1 h2
    cases hx
  | succ fuel ih =>
    intro listed L s a w G hsz hl hlen hdc hc hr hI
    refine ⟨fun hn => ?_, fun i hi => ?_⟩
    · obtain rfl := nonempty hsz hl hc hr hn
      exact hK a w G (hr ▸ hI)
    · obtain ⟨h1, h2, h3⟩ := ready hi
      obtain ⟨x, hx, rfl⟩ := (hl i h1).1 h2
      obtain ⟨A, B, rfl⟩ := List.append_of_mem hx
      have hxo := mem_lt hr x hx
      have hind : ∀ y ∈ A, Indep ops y x := fun y hy => by
        obtain ⟨_, hp⟩ := (List.pairwise_append.1 hc.pw).2.2 y hy x (by simp)
        rcases hp with hp | hp
        · exfalso
          obtain ⟨e, he, hb, z, hz, hzi⟩ := hdc.trans (y := y) (by simp [hy]) 3 x.i x.o hxo hp
          have h4 := h3 x.o hxo e he hb
          have hzo := mem_lt hr z hz
          have hzlt : z.i < ops.size := (Array.getElem?_eq_some_iff.1 hzo).1
          have h6 := (hl z.i hzlt).2 ⟨z, hz, rfl⟩
          rw [← hzi] at h4
          have hlt' : z.i < listed.size := by omega
          simp [Array.getD_eq_getD_getElem?, hlt'] at h4 h6
          rw [h4] at h6
          cases h6
        · exact hp
      obtain ⟨g1, g2⟩ := runs_front A hind hr
      refine g1.2.2 s ⟨fun _ _ => rfl, fun _ _ => ⟨rfl, rfl⟩, rfl⟩ w0 O a w G _ Q hI (fun a' w' G' hI' => ?_)
      have hsub : (A ++ B).Sublist (A ++ x :: B) := List.Sublist.append (List.Sublist.refl A) (List.sublist_cons_self x B)
      refine ih (listed.setIfInBounds x.i true) (A ++ B) _ a' w' G' (by simpa using hsz) (fun j hj => ?_) (by simp at hlen ⊢; omega) (fun y hy k o ho e he hb hei => ?_) (hc.sub hsub) g2 hI'
      rotate_left
      · obtain ⟨z, hz, hzk⟩ := hdc y (hsub.subset hy) k o ho e he hb hei
        refine ⟨z, ?_, hzk⟩
        rcases List.mem_append.1 hz with hz | hz
        · exact List.mem_append_left _ hz
        · rcases List.mem_cons.1 hz with rfl | hz
          · exfalso
            rw [← hzk] at ho
            have h4 := h3 o ho e he hb
            have hyo := mem_lt hr y (hsub.subset hy)
            have hylt : y.i < ops.size := (Array.getElem?_eq_some_iff.1 hyo).1
            have h6 := (hl y.i hylt).2 ⟨y, hsub.subset hy, rfl⟩
            rw [hei] at h4
            have hlt' : y.i < listed.size := by omega
            simp [Array.getD_eq_getD_getElem?, hlt'] at h4 h6
            rw [h4] at h6
            cases h6
          · exact List.mem_append_right _ hz
      
      have hone : ∀ y ∈ A ++ B, y.i ≠ x.i := fun y hy e => by
        rcases List.mem_append.1 hy with hy | hy
        · have := ((List.pairwise_append.1 hc.pw).2.2 y hy x (by simp)).1
          omega
        · have := (List.pairwise_cons.1 (List.pairwise_append.1 hc.pw).2.1).1 y hy
          omega
      by_cases e : j = x.i
      · subst e
        have hlt' : x.i < listed.size := by omega
        constructor
        · intro h
          simp [Array.getD_eq_getD_getElem?, hlt'] at h
        · rintro ⟨y, hy, e⟩
          exact absurd e (hone y hy)
      · have hset : (listed.setIfInBounds x.i true).getD j true = listed.getD j true := by
          simp [Array.getD_eq_getD_getElem?, Array.getElem?_setIfInBounds_ne (Ne.symm e)]
        rw [hset, hl j hj]
        constructor
        · rintro ⟨y, hy, rfl⟩
          refine ⟨y, ?_, rfl⟩
          rcases List.mem_append.1 hy with hy | hy
          · exact List.mem_append_left _ hy
          · rcases List.mem_cons.1 hy with rfl | hy
            · exact absurd rfl e
            · exact List.mem_append_right _ hy
        · rintro ⟨y, hy, rfl⟩
          exact ⟨y, hsub.subset hy, rfl⟩

end
end Go.Proofs.YtiimdlkeikcfiaaGreat.M
namespace Go.Proofs.YtiimdlkeikcfiaaGreat.V
open Go.RowKit M
section
variable {P : Program} {T : TyT} {VT : VTab} {ops : Array Oper}
def checkV2 (ops : Array Oper) : List Sk → Bool
  | [] => true
  | x :: L => (L.all fun y => Nat.blt x.i y.i && (depB y.o x.i || (indepV ops x y || depTB ops 3 y.o x.i))) && (x.o.after.toList.all fun e => !Region.binds .any e || Nat.blt e.on x.i) && checkV2 ops L
theorem depT_of {o : Oper} {i : Nat} (h : depB o i = true) : depTB ops 3 o i = true := by
  unfold depB at h
  rw [List.any_eq_true] at h
  obtain ⟨e, he, hb⟩ := h
  rw [Bool.and_eq_true] at hb
  simp only [depTB, List.any_eq_true, Bool.and_eq_true, Bool.or_eq_true]
  exact ⟨e, he, hb.1, .inl hb.2⟩
theorem chk2_v : ∀ {L : List Sk} {L' : List It}, SkL L L' → checkV2 ops L = true → Chk2 ops L'
  | [], _, .nil, _ => ⟨List.Pairwise.nil, by simp⟩
  | x :: L, _, .cons (y := x') (b := L') hx hL, h => by
    simp only [checkV2, Bool.and_eq_true, List.all_eq_true] at h
    obtain ⟨⟨h1, h2⟩, h3⟩ := h
    obtain ⟨k1, k2⟩ := chk2_v hL h3
    refine ⟨List.Pairwise.cons (fun y' hy' => ?_) k1, fun y' hy' => ?_⟩
    · obtain ⟨y, hy, hyy⟩ : ∃ y ∈ L, SkOf y y' := by
        clear h1 h2 h3 k1 k2
        induction hL with
        | nil => cases hy'
        | cons ha hr ih =>
          rcases List.mem_cons.1 hy' with rfl | hy'
          · exact ⟨_, List.mem_cons_self, ha⟩
          · obtain ⟨y, h1, h2⟩ := ih hy'
            exact ⟨y, List.mem_cons_of_mem _ h1, h2⟩
      have := h1 y hy
      rw [hx.i, hyy.i, hyy.o]
      rw [Bool.or_eq_true, Bool.or_eq_true] at this
      refine ⟨blt_iff.1 this.1, ?_⟩
      rcases this.2 with h | h | h
      · exact .inl (depT_of h)
      · exact .inr (indep_of (indep_v hx hyy h))
      · exact .inl h
    · rcases List.mem_cons.1 hy' with rfl | hy'
      · intro e he hb
        rw [hx.o] at he
        have := h2 e (by simpa using he)
        rw [hb] at this
        rw [hx.i]
        exact blt_iff.1 (by simpa using this)
      · exact k2 y' hy'
theorem VW.drwT (hT : TOk P T) (hV : VTOk T VT) (hm : P.follows .mixedOrders = true) {id : Nat} {s : VSt} {Q : Exit → VSt → Prop} (h : runDV P T VT ops 0 ops.toList s [] (fun s' acc => sideP (checkV2 ops acc.reverse) (settle s' (namesOf acc) (fun s' => normW (namesOf acc) s' fun s' => Q .normal s')))) : VW P (.region id ops true) s Q := by
  refine ⟨fun st hs => gs_end ⟨fun w0 O a w G QQ hI hQ => ?_⟩⟩
  obtain ⟨sk, L, s', st', h1, h2, h3, h4, h5⟩ := runDV_runs hT hV ops.toList 0 (fun j => by simp) hs h
  rw [List.append_nil] at h1
  obtain ⟨hchk, h1⟩ := h1.ok
  rw [List.reverse_reverse] at hchk
  obtain ⟨s2, st2, h6, g, h7⟩ := settle_at h2 h1
  rw [normW_eq] at h6
  have hlen : L.length = ops.size := by rw [← List.length_map (f := It.i), h5]; simp
  have hall : ∀ i, i < ops.size → ∃ x ∈ L, x.i = i := fun i hi => by
    have : i ∈ L.map (·.i) := by rw [h5]; simp [List.mem_range']; omega
    exact List.mem_map.1 this
  refine wp_region_any hm (runs_any2 (w0 := w0) (O := O) (s' := st') (fun a' w' G' hI' => hQ _ _ _ _ _ ⟨st2, g, s2, h7, h6⟩ hI') ops.size _ L st a _ G (by simp) (fun i hi => ?_) (by omega) (fun y _ k o ho _ _ _ _ => hall k (Array.getElem?_eq_some_iff.1 ho).1) (chk2_v h3 hchk) h4 (hI.drawn _))
  simp only [Array.getD_eq_getD_getElem?]
  obtain ⟨x, hx, hxi⟩ := hall i hi
  simp [hi]
  exact ⟨x, hx, hxi⟩
end
end Go.Proofs.YtiimdlkeikcfiaaGreat.V

namespace Go.Proofs.YtiimdlkeikcfiaaGreat.V
open Go.RowKit M
set_option maxRecDepth 100000
set_option maxHeartbeats 1000000
def srow (l : List Obj) (now : Int) (r : List Bool) (e : Int) : List Bool := if expired (l.getD e.toNat (d0 .obj)) now then r else r.set e.toNat true
def scell (l : List Obj) (now : Int) (r : List Bool) (i : Nat) : List Bool := if !(r.getD i false) || (expired (l.getD i (d0 .obj)) now && decide (0 < i)) then r else (edgesN l i l.length).foldl (srow l now) r
def sround (l : List Obj) (now : Int) (r : List Bool) (_n : Nat) : List Bool := (List.range 10).foldl (scell l now) r
def sreach (l : List Obj) (now : Int) : List Bool := (List.range 10).foldl (sround l now) reach0
theorem srow_len {l : List Obj} {now : Int} : ∀ (es : List Int) (r : List Bool), (es.foldl (srow l now) r).length = r.length
  | [], r => rfl
  | e :: es, r => by
    rw [List.foldl_cons, srow_len es]
    unfold srow
    split
    · rfl
    · exact List.length_set
theorem scell_len {l : List Obj} {now : Int} : ∀ (es : List Nat) (r : List Bool), (es.foldl (scell l now) r).length = r.length
  | [], r => rfl
  | e :: es, r => by
    rw [List.foldl_cons, scell_len es]
    unfold scell
    split
    · rfl
    · exact srow_len _ _
theorem sround_len {l : List Obj} {now : Int} : ∀ (es : List Nat) (r : List Bool), (es.foldl (sround l now) r).length = r.length
  | [], r => rfl
  | e :: es, r => by
    rw [List.foldl_cons, sround_len es]
    exact scell_len _ _
theorem range_fold {β : Type} (f : β → Nat → β) (a : β) (k : Nat) : (List.range (k + 1)).foldl f a = f ((List.range k).foldl f a) k := by
  rw [List.range_succ, List.foldl_append]; rfl
theorem sReach_v (l : List Obj) (now : Int) (hb : arenaB l) (hok : arenaOk l = true) : VC Tryz.prog 31 [.one (.ro .obj l), iA now] (.av (.one (.own .bool true (sreach l now) []))) := by
  have hl := arenaOk_len hok
  refine VC.go tiOk vtOk [] Tryz.func31 rfl rfl ?_
  conv => whnf
  refine ⟨_, sArenaOk_v l hb hok, ?_⟩
  conv => whnf
  refine goV_loop tiOk vtOk [] (fun k : Nat => stV 71 [(0, .av (.one (.ro .obj l))), (1, .av (iA now)), (5, .av (.one (.ref [15] .bool none))), (6, .av (.one (iV k)))] [(15, some (.rows .bool true ((List.range k).foldl (sround l now) reach0) []))]) (fun k => k ≤ 10) (fun k => 10 - k) 0 (Nat.zero_le _) rfl ?_ fun k hj => ?_
  · conv => whnf
    repeat (first | (refine ⟨by with_reducible rfl, ?_⟩; conv => whnf) | (refine ⟨rfl, ?_⟩; conv => whnf))
    exact True.intro
  conv => whnf
  refine br (fun h => ?_) (fun h => ?_)
  · have hk : k < 10 := by have := of_decide_eq_true h; omega
    have hrl : ((List.range k).foldl (sround l now) reach0).length = 10 := by rw [sround_len]; rfl
    have hstep := range_fold (sround l now) reach0 k
    generalize (List.range k).foldl (sround l now) reach0 = r at hrl hstep ⊢
    conv => whnf
    refine goV_loop tiOk vtOk [] (fun k2 : Nat => stV 71 [(0, .av (.one (.ro .obj l))), (1, .av (iA now)), (5, .av (.one (.ref [15] .bool none))), (6, .av (.one (iV k))), (7, .av (.one (iV k2)))] [(15, some (.rows .bool true ((List.range k2).foldl (scell l now) r) []))]) (fun k2 => k2 ≤ l.length) (fun k2 => l.length - k2) 0 (Nat.zero_le _) rfl ?_ fun k2 hj2 => ?_
    · conv => whnf
      repeat (first | (refine ⟨by with_reducible rfl, ?_⟩; conv => whnf) | (refine ⟨rfl, ?_⟩; conv => whnf))
      exact True.intro
    conv => whnf
    refine br (fun h2 => ?_) (fun h2 => ?_)
    · have hk2 : k2 < l.length := by simpa using h2
      have hrl2 : ((List.range k2).foldl (scell l now) r).length = 10 := by rw [scell_len]; exact hrl
      have hstep2 := range_fold (scell l now) r k2
      generalize (List.range k2).foldl (scell l now) r = r2 at hrl2 hstep2 ⊢
      have hk3 : k2 < r2.length := by omega
      by_cases hc : (!(r2.getD k2 false) || (expired (l.getD k2 (d0 .obj)) now && decide (0 < k2))) = true
      · have e : scell l now r2 k2 = r2 := if_pos hc
        rw [e] at hstep2
        conv => whnf
        repeat' (first | (refine side_lt hk2 ?_; conv => whnf) | (refine side_lt hk3 ?_; conv => whnf) | (refine ⟨_, sExpired_v _ now, ?_⟩; conv => whnf) | (refine side_le (by (simp [lenW, winL]; omega)) ?_; conv => whnf) | (refine br (fun h => ?_) (fun h => ?_) <;> conv => whnf))
        all_goals first
          | (exfalso; clear hb hok hl hstep hstep2 hrl hrl2 hk2 hk3 hj hj2; simp_all [offN, d0b]; done)
          | (refine ⟨k2 + 1, hk2, by omega, rfl, ?_⟩; rw [hstep2]; (conv => whnf); (repeat (first | (refine ⟨by with_reducible rfl, ?_⟩; conv => whnf) | (refine ⟨congrArg _ (wrap_nat k2 (by omega)), ?_⟩; conv => whnf) | (refine ⟨rfl, ?_⟩; conv => whnf))); exact True.intro)
      · have e : scell l now r2 k2 = (edgesN l k2 l.length).foldl (srow l now) r2 := if_neg hc
        rw [e] at hstep2
        have hkind : (l.getD k2 (d0 .obj)).kind ≠ 0 := by
          rcases Nat.eq_zero_or_pos k2 with h0 | h0
          · subst h0
            simp only [arenaOk, Bool.and_eq_true, decide_eq_true_eq, beq_iff_eq] at hok
            rw [hok.1.1.1.2]; decide
          · intro e2
            exact hc (by rw [Bool.or_eq_true]; right; simp only [expired, e2]; simp [h0])
        conv => whnf
        repeat' (first | (refine side_lt hk2 ?_; conv => whnf) | (refine side_lt hk3 ?_; conv => whnf) | (refine ⟨_, sExpired_v _ now, ?_⟩; conv => whnf) | (refine ⟨_, sEdges_v l k2 hb hok hk2 hkind, ?_⟩; conv => whnf) | (refine side_le (by (simp [lenW, winL]; omega)) ?_; conv => whnf) | (refine br (fun h => ?_) (fun h => ?_) <;> conv => whnf))
        all_goals first
          | (exfalso; clear hb hok hl hstep hstep2 hrl hrl2 hk2 hk3 hj hj2 hkind; simp_all [offN, d0b]; done)
          | skip
        all_goals
          have hel := edgesN_len l (k2 : Int) l.length
          have hem : ∀ e, e ∈ edgesN l (k2 : Int) l.length → 0 ≤ e ∧ e < (l.length : Int) := fun e he => edgesN_mem he
          generalize edgesN l (k2 : Int) l.length = es at hel hem hstep2 ⊢
          refine goV_loop tiOk vtOk [] (fun j : Nat => stV 71 [(0, .av (.one (.ro .obj l))), (1, .av (iA now)), (5, .av (.one (.ref [15] .bool none))), (6, .av (.one (iV k))), (7, .av (.one (iV k2))), (8, .av (.one (.ref [10047] .i64 none))), (9, .av (.one (iV j)))] [(15, some (.rows .bool true ((es.take j).foldl (srow l now) r2) [])), (10047, some (.rows .i64 true es []))]) (fun j => j ≤ es.length) (fun j => es.length - j) 0 (Nat.zero_le _) rfl ?_ fun j hj3 => ?_
          focus
            conv => whnf
            repeat (first | (refine ⟨by with_reducible rfl, ?_⟩; conv => whnf) | (refine ⟨rfl, ?_⟩; conv => whnf))
            exact True.intro
          conv => whnf
          refine br (fun h => ?_) (fun h => ?_)
          focus
            have hj4 : j < es.length := by simpa using h
            have hm := hem _ (getD_mem (d := (0 : Int)) hj4)
            have hl3 : ((es.take j).foldl (srow l now) r2).length = 10 := by rw [srow_len]; exact hrl2
            have hs3 := foldl_take2 (srow l now) r2 es j (0 : Int) hj4
            generalize (es.take j).foldl (srow l now) r2 = r3 at hl3 hs3 ⊢
            conv => whnf
            refine side_lt hj4 ?_
            conv => whnf
            generalize hqe : es.getD j (0 : Int) = q at hm hs3
            have hqe2 : es.getD (offW none j) (d0 .i64) = q := hqe
            have hql : q.toNat < l.length := by omega
            have hqr : q.toNat < r3.length := by omega
            rw [hqe2]
            refine idx_of hm.1 ?_
            conv => whnf
            refine side_lt hql ?_
            conv => whnf
            refine ⟨_, sExpired_v _ now, ?_⟩
            conv => whnf
            by_cases hx : expired (l.getD q.toNat (d0 .obj)) now = true
            · have e4 : srow l now r3 q = r3 := if_pos hx
              rw [e4] at hs3
              refine br_f (by rw [show expired (l.getD q.toNat (d0 .obj)) now = true from hx]; rfl) ?_
              conv => whnf
              refine ⟨j + 1, hj4, by omega, rfl, ?_⟩
              rw [hs3]
              conv => whnf
              repeat (first | (refine ⟨by with_reducible rfl, ?_⟩; conv => whnf) | (refine ⟨congrArg _ (wrap_nat j (by omega)), ?_⟩; conv => whnf) | (refine ⟨rfl, ?_⟩; conv => whnf))
              exact True.intro
            · have e4 : srow l now r3 q = r3.set q.toNat true := if_neg hx
              rw [e4] at hs3
              refine br_t (by simpa [offN] using hx) ?_
              conv => whnf
              refine side_lt hj4 ?_
              conv => whnf
              rw [hqe2]
              refine idx_of hm.1 ?_
              conv => whnf
              refine side_lt hqr ?_
              conv => whnf
              refine ⟨j + 1, hj4, by omega, rfl, ?_⟩
              rw [hs3]
              conv => whnf
              repeat (first | (refine ⟨by with_reducible rfl, ?_⟩; conv => whnf) | (refine ⟨congrArg _ (wrap_nat j (by omega)), ?_⟩; conv => whnf) | (refine ⟨rfl, ?_⟩; conv => whnf))
              exact True.intro
          conv => whnf
          have e4 : j = es.length := by simp at h; omega
          refine ⟨k2 + 1, hk2, by omega, rfl, ?_⟩
          rw [hstep2, e4, List.take_length]
          conv => whnf
          repeat (first | (refine ⟨by with_reducible rfl, ?_⟩; conv => whnf) | (refine ⟨congrArg _ (wrap_nat k2 (by omega)), ?_⟩; conv => whnf) | (refine ⟨rfl, ?_⟩; conv => whnf))
          exact True.intro
    · conv => whnf
      have e : k2 = 10 := by simp at h2; omega
      subst e
      refine ⟨k + 1, hk, by omega, rfl, ?_⟩
      rw [hstep]
      conv => whnf
      repeat (first | (refine ⟨by with_reducible rfl, ?_⟩; conv => whnf) | (refine ⟨congrArg _ (wrap_nat k (by omega)), ?_⟩; conv => whnf) | (refine ⟨rfl, ?_⟩; conv => whnf))
      exact True.intro
  · conv => whnf
    have e : k = 10 := by have := of_decide_eq_false h; omega
    subst e
    conv => whnf
    repeat (first | (refine ⟨by with_reducible rfl, ?_⟩; conv => whnf) | (refine ⟨rfl, ?_⟩; conv => whnf))
    exact True.intro
def sgood (l : List Obj) (now part h : Int) : Int :=
  if handlePart h != part then -1 else if (l.getD (handleSlot h).toNat (d0 .obj)).kind == 0 || ((l.getD (handleSlot h).toNat (d0 .obj)).gen != handleGen h || !((sreach l now).getD (handleSlot h).toNat (d0 .bool))) then -1 else handleSlot h
theorem sGoodSlot_v (l : List Obj) (now part x : Int) (hb : arenaB l) (hok : arenaOk l = true) (hh : inB x 0 29999 = true) : VC Tryz.prog 15 [.one (.ro .obj l), iA now, iA part, iA x] (iR (sgood l now part x)) := by
  have hl := arenaOk_len hok
  have hs := handleSlot_in hh
  have hsl : (sreach l now).length = 10 := by unfold sreach; rw [sround_len]; rfl
  refine VC.go tiOk vtOk [4] Tryz.func15 rfl rfl ?_
  conv => whnf
  refine ⟨_, sArenaOk_v l hb hok, ?_⟩
  conv => whnf
  refine ⟨_, l8Handle_v x, ?_⟩
  conv => whnf
  refine br_f (by rw [hh]; rfl) ?_
  conv => whnf
  refine ⟨_, sHandlePart_v x hh, ?_⟩
  conv => whnf
  by_cases h1 : (handlePart x != part) = true
  · have e : sgood l now part x = -1 := if_pos h1
    rw [e]
    refine br_t h1 ?_
    conv => whnf
    conv => whnf
    repeat (first | (refine ⟨by with_reducible rfl, ?_⟩; conv => whnf) | (refine ⟨rfl, ?_⟩; conv => whnf))
    exact True.intro
  have e : sgood l now part x = if (l.getD (handleSlot x).toNat (d0 .obj)).kind == 0 || ((l.getD (handleSlot x).toNat (d0 .obj)).gen != handleGen x || !((sreach l now).getD (handleSlot x).toNat (d0 .bool))) then -1 else handleSlot x := if_neg h1
  refine br_f (by simpa using h1) ?_
  conv => whnf
  refine ⟨_, sHandleSlot_v x hh, ?_⟩
  conv => whnf
  refine VW.drwT tiOk vtOk rfl ?_
  conv => whnf
  generalize handleSlot x = i at hs e ⊢
  have hv := sReach_v l now hb hok
  generalize sreach l now = R at hv e hsl ⊢
  have hi : i.toNat < l.length := by omega
  have hi2 : i.toNat < R.length := by omega
  by_cases h2 : ((l.getD i.toNat (d0 .obj)).kind == 0 || ((l.getD i.toNat (d0 .obj)).gen != handleGen x || !(R.getD i.toNat (d0 .bool)))) = true
  · rw [if_pos h2] at e
    rw [e]
    repeat' (first | (refine idx_of hs.1 ?_; conv => whnf) | (refine side_lt hi ?_; conv => whnf) | (refine side_lt hi2 ?_; conv => whnf) | (refine ⟨_, sHandleGen_v x hh, ?_⟩; conv => whnf) | (refine ⟨_, hv, ?_⟩; conv => whnf) | (refine side_le (by (simp [lenW, winL]; omega)) ?_; conv => whnf) | (refine br (fun h => ?_) (fun h => ?_) <;> conv => whnf))
    all_goals first
      | (exfalso; clear hv hb hok hl e hsl hi hi2 hs; simp_all [offN]; done)
      | skip
    all_goals
      conv => whnf
      repeat (first | (refine ⟨by with_reducible rfl, ?_⟩; conv => whnf) | (refine ⟨rfl, ?_⟩; conv => whnf))
      exact True.intro
  · rw [if_neg h2] at e
    rw [e]
    repeat' (first | (refine idx_of hs.1 ?_; conv => whnf) | (refine side_lt hi ?_; conv => whnf) | (refine side_lt hi2 ?_; conv => whnf) | (refine ⟨_, sHandleGen_v x hh, ?_⟩; conv => whnf) | (refine ⟨_, hv, ?_⟩; conv => whnf) | (refine side_le (by (simp [lenW, winL]; omega)) ?_; conv => whnf) | (refine br (fun h => ?_) (fun h => ?_) <;> conv => whnf))
    all_goals first
      | (exfalso; clear hv hb hok hl e hsl hi hi2 hs; simp_all [offN]; done)
      | skip
    all_goals
      conv => whnf
      repeat (first | (refine ⟨by with_reducible rfl, ?_⟩; conv => whnf) | (refine ⟨rfl, ?_⟩; conv => whnf))
      exact True.intro

end Go.Proofs.YtiimdlkeikcfiaaGreat.V

namespace Go.Proofs.YtiimdlkeikcfiaaGreat.V
open Go.RowKit M
set_option maxRecDepth 100000
set_option maxHeartbeats 1000000
theorem copyWorld1_v (now : Int) (p : Part) (hc : partCB p) : VC Tryz.prog 34 [.agg [iV now, .ro .part [p]]] (.av (.agg [iV now, .own .part true [p] []])) :=
  copyWorld_v ⟨now, [p]⟩ ⟨by show 1 ≤ 1000000000; decide, fun q hq => by rw [List.mem_singleton.1 hq]; exact hc⟩
theorem hasPart1_v (now : Int) (p : Part) : VC Tryz.prog 25 [.agg [iV now, .ro .part [p]], iA 0] (bR true) :=
  hasPart_v ⟨now, [p]⟩ 0 (by show 1 ≤ 1000000000; decide)

end Go.Proofs.YtiimdlkeikcfiaaGreat.V

namespace Go.Proofs.YtiimdlkeikcfiaaGreat.V
open Go.RowKit M
set_option maxRecDepth 100000
set_option maxHeartbeats 1000000
theorem otherPart_v (now : Int) (p : Part) (c : Call) (hk : 1 ≤ c.kind ∧ c.kind ≤ 5) : VC Tryz.prog 53 [.agg [iV now, .ro .part [p]], iA 0, callA c] (iR 0) := by
  refine VC.go tiOk vtOk [] Tryz.func53 rfl rfl ?_
  conv => whnf
  refine br_f (by simp; omega) ?_
  conv => whnf
  refine br_f (by simp; omega) ?_
  conv => whnf
  refine br_f (by simp; omega) ?_
  conv => whnf
  refine ⟨_, hasPart1_v now p, ?_⟩
  conv => whnf
  conv => whnf
  repeat (first | (refine ⟨by with_reducible rfl, ?_⟩; conv => whnf) | (refine ⟨rfl, ?_⟩; conv => whnf))
  exact True.intro
def callP (now : Int) (p : Part) (th : Int) (c : Call) : Part × Int × Int := partCall p 0 now th c
theorem WorldCall_v (now : Int) (p : Part) (th : Int) (c : Call) (hb : partG p) (hk : 1 ≤ c.kind ∧ c.kind ≤ 5) (hw : worldOk1 now p = true) : VC Tryz.prog 23 [.agg [iV now, .ro .part [p]], iA 0, iA th, callA c] (.tup [.agg [iV now, .own .part true [(callP now p th c).1] []], .agg [iV (callP now p th c).2.1, iV (callP now p th c).2.2]]) := by
  have hw0 := hw
  simp only [worldOk1, Bool.and_eq_true] at hw
  have eP : callP now p th c = (if canCall p now th then (if (doC p 0 now c).2.1 == 0 then ((doC p 0 now c).1, 0, (doC p 0 now c).2.2)
      else (if c.kind == 1 && ((doC p 0 now c).2.1 == 6 || (doC p 0 now c).2.1 == 7) then pressP p else p, (doC p 0 now c).2.1, 0)) else (p, 1, 0)) :=
    if_pos (by rw [hw.2.1, hw.1]; rfl)
  refine VC.go tiOk vtOk [11,12,13] Tryz.func23 rfl rfl ?_
  conv => whnf
  refine ⟨_, copyWorld1_v now p hb.2.1, ?_⟩
  conv => whnf
  refine ⟨_, WorldOk_v now p hb.1, ?_⟩
  conv => whnf
  refine br_f (by rw [hw0]; rfl) ?_
  conv => whnf
  refine ⟨_, hasPart1_v now p, ?_⟩
  conv => whnf
  refine ⟨_, CanCall_v p now th hb.1, ?_⟩
  conv => whnf
  by_cases h2 : canCall p now th = true
  · refine br_f (by rw [h2]; rfl) ?_
    conv => whnf
    refine ⟨_, otherPart_v now p c hk, ?_⟩
    conv => whnf
    refine br_f (by simp; omega) ?_
    conv => whnf
    refine br_f (by simp; omega) ?_
    conv => whnf
    refine br_f (by simp; omega) ?_
    conv => whnf
    have hv := PartCall_v p 0 now th c hb hk
    have hE : partCall p 0 now th c = callP now p th c := rfl
    rw [hE] at hv
    generalize callP now p th c = R at hv ⊢
    refine VW.drwR tiOk vtOk rfl ?_
    conv => whnf
    refine ⟨_, hv, ?_⟩
    conv => whnf
    refine VW.raw tiOk vtOk ?_
    conv => whnf
    refine VW.ownG 10 1 ?_
    conv => whnf
    refine VW.drw tiOk vtOk rfl ?_
    conv => whnf
    conv => whnf
    repeat (first | (refine ⟨by with_reducible rfl, ?_⟩; conv => whnf) | (refine ⟨rfl, ?_⟩; conv => whnf))
    exact True.intro
  · rw [if_neg h2] at eP
    rw [eP]
    refine br_t (by simpa using h2) ?_
    conv => whnf
    conv => whnf
    repeat (first | (refine ⟨by with_reducible rfl, ?_⟩; conv => whnf) | (refine ⟨rfl, ?_⟩; conv => whnf))
    exact True.intro
def liveN (l : List Obj) : Int := l.foldl (fun s o => if o.kind != 0 then s + 1 else s) 0
theorem liveN_take (l : List Obj) : ∀ k, k ≤ l.length → 0 ≤ liveN (l.take k) ∧ liveN (l.take k) ≤ k
  | 0, _ => by simp [liveN]
  | k + 1, hk => by
    have h1 := liveN_take l k (by omega)
    have e : liveN (l.take (k + 1)) = if (l.getD k (d0 .obj)).kind != 0 then liveN (l.take k) + 1 else liveN (l.take k) := by
      unfold liveN
      rw [foldl_take2 _ _ _ _ (d0 .obj) (by omega)]
    rw [e]
    split <;> omega
theorem LiveCount_v (now : Int) (p : Part) (hb : p.heap.arena.length ≤ 1000000000) : VC Tryz.prog 14 [.agg [iV now, .ro .part [p]], iA 0] (iR (liveN p.heap.arena)) := by
  refine VC.go tiOk vtOk [] Tryz.func14 rfl rfl ?_
  conv => whnf
  refine ⟨_, hasPart1_v now p, ?_⟩
  conv => whnf
  refine goV_loop tiOk vtOk [] (fun k : Nat => stV 32 [(5, .av (.one (iV (liveN (p.heap.arena.take k))))), (19, .av (.one (.ro .obj p.heap.arena))), (20, .av (.one (iV p.heap.arena.length))), (21, .av (.one (iV k)))] []) (fun k => k ≤ p.heap.arena.length) (fun k => p.heap.arena.length - k) 0 (Nat.zero_le _) rfl ?_ fun k hj => ?_
  · conv => whnf
    repeat (first | (refine ⟨by with_reducible rfl, ?_⟩; conv => whnf) | (refine ⟨rfl, ?_⟩; conv => whnf))
    exact True.intro
  conv => whnf
  refine br (fun h => ?_) (fun h => ?_)
  · have hk : k < p.heap.arena.length := by simpa using h
    have hl := liveN_take p.heap.arena k hj
    have e : liveN (p.heap.arena.take (k + 1)) = if (p.heap.arena.getD k (d0 .obj)).kind != 0 then liveN (p.heap.arena.take k) + 1 else liveN (p.heap.arena.take k) := by
      unfold liveN
      rw [foldl_take2 _ _ _ _ (d0 .obj) hk]
    have e1 : IntKind.i64.wrap (liveN (p.heap.arena.take k) + 1) = liveN (p.heap.arena.take k) + 1 := wrap_in (by omega)
    conv => whnf
    refine side_lt hk ?_
    conv => whnf
    by_cases h2 : ((p.heap.arena.getD k (d0 .obj)).kind != 0) = true
    · rw [if_pos h2] at e
      refine br_t (by simpa [offN] using h2) ?_
      conv => whnf
      refine ⟨k + 1, hk, by omega, rfl, ?_⟩
      rw [e]
      conv => whnf
      repeat (first | (refine ⟨by with_reducible rfl, ?_⟩; conv => whnf) | (refine ⟨congrArg _ (wrap_nat k (by omega)), ?_⟩; conv => whnf) | (refine ⟨congrArg _ e1, ?_⟩; conv => whnf) | (refine ⟨rfl, ?_⟩; conv => whnf))
      exact True.intro
    · rw [if_neg h2] at e
      refine br_f (by simpa [offN] using h2) ?_
      conv => whnf
      refine ⟨k + 1, hk, by omega, rfl, ?_⟩
      rw [e]
      conv => whnf
      repeat (first | (refine ⟨by with_reducible rfl, ?_⟩; conv => whnf) | (refine ⟨congrArg _ (wrap_nat k (by omega)), ?_⟩; conv => whnf) | (refine ⟨rfl, ?_⟩; conv => whnf))
      exact True.intro
  · have e : k = p.heap.arena.length := by simp at h; omega
    rw [e, List.take_length]
    conv => whnf
    repeat (first | (refine ⟨by with_reducible rfl, ?_⟩; conv => whnf) | (refine ⟨rfl, ?_⟩; conv => whnf))
    exact True.intro

end Go.Proofs.YtiimdlkeikcfiaaGreat.V

namespace Go.Proofs.YtiimdlkeikcfiaaGreat.V
open Go.RowKit M
set_option maxRecDepth 100000
set_option maxHeartbeats 1000000
theorem sub_encC : ∀ (n : Nat) {t : Ty} (c : CellD (den t)) (x : den t), M.Sub (cleanO (encC n true c x)) (encC n true c x)
  | n, t, .int k g p, x => by cases n <;> exact .refl
  | n, t, .bool g p, x => by cases n <;> exact .refl
  | n, t, .str g p, x => by cases n <;> exact .refl
  | 0, t, .sl t' g p, x => .any
  | n + 1, t, .sl t' g p, x => by
    show M.Sub (.tr true _ _ (fun i j => cleanO (match nth (cells t') j with | some c' => encC n true c' ((g x).getD i (d0 t')) | none => .any))) _
    refine .tr (fun i j _ _ => ?_)
    show M.Sub (cleanO (match nth (cells t') j with | some c' => encC n true c' ((g x).getD i (d0 t')) | none => .any)) (match nth (cells t') j with | some c' => encC n true c' ((g x).getD i (d0 t')) | none => .any)
    cases nth (cells t') j with
    | none => exact .any
    | some c' => exact sub_encC n c' _
theorem sub_row {t : Ty} (l : List (den t)) (i j : Nat) : M.Sub (cleanO (encRow true t l i j)) (encRow true t l i j) := by
  unfold encRow
  cases nth (cells t) j with
  | none => exact .any
  | some c => exact sub_encC 3 c _
end Go.Proofs.YtiimdlkeikcfiaaGreat.V
namespace Go.Proofs.YtiimdlkeikcfiaaGreat.M
open Go.RowKit
def unC (P : Program) (T : TyT) (sp : List Nat) (c : Code) (Q : Exit → St → Prop) (n : Nat) (s : St) : Prop :=
  match n with
  | 0 => False
  | n + 1 => goC P T sp c s (thenC (fun s' => unC P T sp c Q n s') Q)
theorem MW.unroll {P : Program} {T : TyT} (hT : TOk P T) (sp : List Nat) (n : Nat) {c : Code} {s : St} {Q : Exit → St → Prop} (h : unC P T sp c Q n s) : MW P (.loop c) s Q := by
  refine MW.loop (fun n s => unC P T sp c Q n s) (fun n s h => ?_) h
  cases n with
  | zero => exact h.elim
  | succ n =>
    refine (goC_ok hT c h).mono fun e s' hq => ?_
    cases e with
    | normal => exact ⟨n, Nat.lt_succ_self n, hq⟩
    | _ => exact hq
end Go.Proofs.YtiimdlkeikcfiaaGreat.M
namespace Go.Proofs.YtiimdlkeikcfiaaGreat.V
open Go.RowKit M
set_option maxRecDepth 100000
set_option maxHeartbeats 1000000
theorem lt5 {p : Nat → Prop} (h0 : p 0) (h1 : p 1) (h2 : p 2) (h3 : p 3) (h4 : p 4) : ∀ j, j < 5 → p j
  | 0, _ => h0
  | 1, _ => h1
  | 2, _ => h2
  | 3, _ => h3
  | 4, _ => h4
theorem lt2 {p : Nat → Prop} (h0 : p 0) (h1 : p 1) : ∀ j, j < 2 → p j
  | 0, _ => h0
  | 1, _ => h1
theorem PartTaps_v (now : Int) (p : Part) (hb : partB p) (hc : partCB p) (ht : p.taps = []) : VC Tryz.prog 36 [.agg [iV now, .ro .part [p]], iA 0] (.av (.agg [iV now, .own .part true [p] []])) := by
  have : NRL [canA (.agg [iV now, .ro .part [p]]), canA (iA 0)] := ⟨fun m hm => by
    rcases List.mem_cons.1 hm with rfl | hm
    · exact canA_noref _
    · rw [List.mem_singleton.1 hm]; exact canA_noref _⟩
  show TC _ _ [canA (.agg [iV now, .ro .part [p]]), canA (iA 0)] _
  refine TC.goS tiOk [5,20] Tryz.func36 rfl rfl ?_
  conv => whnf
  refine ⟨_, _, copyWorld1_v now p hc, frzL_ok ⟨.agg fun j hj => ?_, trivial⟩, rfl, ?_⟩
  · revert j
    exact lt2 .v .same
  conv => whnf
  refine ⟨_, _, WorldOk_v now p hb, frzL_ok ⟨.agg fun j hj => ?_, trivial⟩, rfl, ?_⟩
  · revert j
    exact lt2 .v .same
  conv => whnf
  refine br (fun h1 => ?_) (fun h1 => ?_)
  · conv => whnf
    refine ⟨rfl, ?_⟩
    conv => whnf
    refine ⟨rfl, Nat.le_refl _, fun i j hi hj => sub_row _ _ _, True.intro⟩
  have hok : worldOk1 now p = true := by simpa using h1
  simp only [worldOk1, Bool.and_eq_true] at hok
  have h5 := treeOk_len (partOk_tree hok.2.1)
  conv => whnf
  refine ⟨_, _, hasPart1_v now p, frzL_ok ⟨.agg fun j hj => ?_, .v, trivial⟩, rfl, ?_⟩
  · revert j
    exact lt2 .v .same
  conv => whnf
  refine MW.gs (st' := stL 75 [(1, .v (.int .i64 0)), (2, .ptr [2] 0 2 0 0), (4, .ptr [4] 0 2 0 0), (5, .ptr [5] 0 2 0 0), (6, .ref [25] 0 1 0 0)] [(2, ⟨2, 1, fun _ j => nthM [.v (.int .i64 now), canC (.ro .part [p])] j⟩), (4, ⟨2, 1, fun _ j => nthM [.v (.int .i64 0), .v (.slice none 0 0)] j⟩), (5, ⟨2, 1, fun _ j => nthM [.v (.int .i64 now), .ref [20014] 0 16 0 1] j⟩), (25, ⟨1, 0, fun _ _ => .any⟩), (20014, ⟨16, 1, encRow true .part [p]⟩)]) (GS.lists ⟨.v rfl, .ptr rfl rfl rfl rfl rfl, .ptr rfl rfl rfl rfl rfl, .ptr rfl rfl rfl rfl rfl, .ref rfl rfl rfl rfl rfl, trivial⟩ ⟨⟨rfl, rfl, fun i j hi hj => ?_⟩, ⟨rfl, rfl, fun i j hi hj => ?_⟩, ⟨rfl, rfl, fun i j hi hj => ?_⟩, ⟨rfl, rfl, fun i j hi hj => ?_⟩, ⟨rfl, rfl, fun i j hi hj => ?_⟩, trivial⟩ rfl) ?_
  · revert j
    exact lt2 (.v rfl) (.noref (can_noref (.ro .part [p])))
  · revert j
    exact lt2 (.v rfl) (.v rfl)
  · obtain rfl : i = 0 := Nat.lt_one_iff.1 hi
    revert j
    exact lt2 (.v rfl) (.ref rfl rfl rfl rfl rfl)
  · exact .any
  · exact .noref (row_noref _ _ _ _)
  refine MW.gs (GS.expl (n := 20014) (i := 0) (j := 2) (d := 778) rfl (by decide) ⟨Nat.lt_succ_self 0, show 2 < 16 by decide, rfl⟩) ?_
  refine MW.reg tiOk ?_
  conv => whnf
  refine MW.unroll tiOk [] 2 ?_
  conv => whnf
  refine MW.unroll tiOk [] 1 ?_
  conv => whnf
  refine br_f (by show decide ((0 : Int) < (p.taps.length : Nat)) = false; rw [ht]; rfl) ?_
  conv => whnf
  refine MW.unroll tiOk [] 2 ?_
  conv => whnf
  refine MW.gs (st' := stL 75 [(4, .ptr [4] 0 2 0 0), (5, .ptr [5] 0 2 0 0)] [(4, ⟨2, 1, fun _ j => nthM [.v (.int .i64 0), .v (.slice none 0 0)] j⟩), (5, ⟨2, 1, fun _ j => nthM [.v (.int .i64 now), .ref [20014] 0 16 0 1] j⟩), (20014, ⟨16, 1, fun i j => bif Nat.beq j 2 then .ref [778] 0 5 0 p.tree.length else encRow true .part [p] i j⟩), (778, ⟨5, p.tree.length, encRow true .res p.tree⟩)]) (GS.lists ⟨.ptr rfl rfl rfl rfl rfl, .ptr rfl rfl rfl rfl rfl, trivial⟩ ⟨⟨rfl, rfl, fun i j hi hj => ?_⟩, ⟨rfl, rfl, fun i j hi hj => ?_⟩, ⟨rfl, rfl, fun i j hi hj => ?_⟩, ⟨rfl, rfl, fun i j hi hj => ?_⟩, trivial⟩ rfl) ?_
  · obtain rfl : i = 0 := Nat.lt_one_iff.1 hi
    revert j
    exact lt2 (.v rfl) (.v rfl)
  · obtain rfl : i = 0 := Nat.lt_one_iff.1 hi
    revert j
    exact lt2 (.v rfl) (.ref rfl rfl rfl rfl rfl)
  · obtain rfl : i = 0 := Nat.lt_one_iff.1 hi
    have nr : ∀ j, NoRef (encRow true .part [p] 0 j) := fun j => row_noref _ _ _ _
    revert j
    refine lt16 (lt13 ?_ ?_ ?_ ?_ ?_ ?_ ?_ ?_ ?_ ?_ ?_ ?_ ?_) ?_ ?_ ?_
    · exact .noref (nr 0)
    · exact .noref (nr 1)
    · exact .ref rfl rfl rfl rfl rfl
    · exact .noref (nr 3)
    · exact .v rfl
    · exact .v rfl
    · exact .v rfl
    · exact .noref (nr 7)
    · exact .noref (nr 8)
    all_goals exact .v rfl
  · revert j
    exact lt5 (.v rfl) (.v rfl) (.v rfl) (.v rfl) (.v rfl)
  refine MW.gs (GS.lay (N := 20014) (m := 778) (p := []) (i := 0) (j := 2) (len := p.tree.length) (by decide) rfl rfl ⟨Nat.lt_succ_self 0, show 2 < 16 by decide, rfl⟩ (Nat.le_refl _)) ?_
  refine MW.gs (st' := stL 75 [(4, .ptr [4] 0 2 0 0), (5, .ptr [5] 0 2 0 0)] [(4, ⟨2, 1, fun _ j => nthM [.v (.int .i64 0), .v (.slice none 0 0)] j⟩), (5, ⟨2, 1, fun _ j => nthM [.v (.int .i64 now), .ref [20014] 0 16 0 1] j⟩), (20014, ⟨16, 1, encRow true .part [p]⟩)]) (GS.lists ⟨.ptr rfl rfl rfl rfl rfl, .ptr rfl rfl rfl rfl rfl, trivial⟩ ⟨⟨rfl, rfl, fun i j hi hj => ?_⟩, ⟨rfl, rfl, fun i j hi hj => ?_⟩, ⟨rfl, rfl, fun i j hi hj => ?_⟩, trivial⟩ rfl) ?_
  · obtain rfl : i = 0 := Nat.lt_one_iff.1 hi
    revert j
    exact lt2 (.v rfl) (.v rfl)
  · obtain rfl : i = 0 := Nat.lt_one_iff.1 hi
    revert j
    exact lt2 (.v rfl) (.ref rfl rfl rfl rfl rfl)
  · obtain rfl : i = 0 := Nat.lt_one_iff.1 hi
    have nr : ∀ j, NoRef (encRow true .part [p] 0 j) := fun j => row_noref _ _ _ _
    revert j
    refine lt16 (lt13 ?_ ?_ ?_ ?_ ?_ ?_ ?_ ?_ ?_ ?_ ?_ ?_ ?_) ?_ ?_ ?_
    · exact reM_noref (nr 0)
    · exact reM_noref (nr 1)
    · refine .tr rfl (fun a c ha hc => ?_)
      revert c
      exact lt5 (.v rfl) (.v rfl) (.v rfl) (.v rfl) (.v rfl)
    · exact reM_noref (nr 3)
    · exact .v rfl
    · exact .v rfl
    · exact .v rfl
    · exact reM_noref (nr 7)
    · exact reM_noref (nr 8)
    all_goals exact .v rfl
  refine MW.reg tiOk ?_
  conv => whnf
  refine ⟨rfl, ?_⟩
  conv => whnf
  exact ⟨rfl, Nat.le_refl _, fun i j hi hj => sub_row _ _ _, True.intro⟩

end Go.Proofs.YtiimdlkeikcfiaaGreat.V

namespace Go.Proofs.YtiimdlkeikcfiaaGreat.V
open Go.RowKit M
set_option maxRecDepth 100000
set_option maxHeartbeats 1000000
def tickP (now : Int) (p : Part) : Part := (partRun (collN (now + 1) p 3).1 (now + 1)).1
structure TickB (now : Int) (p : Part) : Prop where
  g : partG p
  taps : p.taps = []
  press : p.press < 3
  wait : ∀ o ∈ p.heap.arena, o.wait ≤ 0
  lt : now < 1000000
  ok : worldOk1 now p = true
  coll : collB (now + 1) p 3
  g2 : partG (collN (now + 1) p 3).1
theorem Tick_v (now : Int) (p : Part) (hB : TickB now p) : VC Tryz.prog 17 [.agg [iV now, .ro .part [p]]] (.av (.agg [iV (now + 1), .own .part true [tickP now p] []])) := by
  obtain ⟨hg, ht, hp, hw, hn, hk, hcl, hg2⟩ := hB
  have hk0 := hk
  simp only [worldOk1, Bool.and_eq_true] at hk
  have hn0 := inB_iff.1 hk.1
  have e1 : IntKind.i64.wrap (now + 1) = now + 1 := wrap_in (by omega)
  have hc3 : (3 : Int).toNat = 3 := rfl
  refine VC.go tiOk vtOk [5,12,13] Tryz.func17 rfl rfl ?_
  conv => whnf
  refine ⟨_, copyWorld1_v now p hg.2.1, ?_⟩
  conv => whnf
  refine ⟨_, WorldOk_v now p hg.1, ?_⟩
  conv => whnf
  refine br_f (by rw [hk0]; rfl) ?_
  conv => whnf
  refine br_f (by simp; omega) ?_
  conv => whnf
  refine VW.sub (s' := stV 71 [(1, .av (.one (.ptr [1] 0 0))), (2, .av (.one (.ptr [2] 0 0))), (3, .av (.one (.ptr [3] 0 0)))] [(1, some (.box [iV now, .ro .part [p]])), (2, some (.box [iV 0, .sc (.slice none 0 0)])), (3, some (.box [iV (now + 1), .own .part true [p] []]))]) rfl ?_ ?_
  · conv => whnf
    repeat (first | (refine ⟨by with_reducible rfl, ?_⟩; conv => whnf) | (refine ⟨congrArg _ e1, ?_⟩; conv => whnf) | (refine ⟨rfl, ?_⟩; conv => whnf))
    exact True.intro
  have hP : collN (now + 1) p 3 = ((collN (now + 1) p 3).1, (collN (now + 1) p 3).2) := rfl
  have hT : tickP now p = (partRun (collN (now + 1) p 3).1 (now + 1)).1 := rfl
  refine VW.reg tiOk vtOk ?_
  conv => whnf
  refine VW.unroll tiOk vtOk [10,12,13,14] 2 ?_
  conv => whnf
  refine ⟨_, PartTaps_v (now + 1) p hg.1 hg.2.1 ht, ?_⟩
  conv => whnf
  refine ⟨_, PartKill_v p (now + 1) hg.1 hg.2.1 hp, ?_⟩
  conv => whnf
  refine ⟨_, PartWake_v p 0 (now + 1) hg.1 hg.2.1 hw, ?_⟩
  conv => whnf
  refine VW.reg tiOk vtOk ?_
  conv => whnf
  refine ⟨_, PartCollect_v p (now + 1) 3 hg.1 hg.2.1 (by decide) hk.2.1 hcl, ?_⟩
  conv => whnf
  rw [hc3]
  generalize collN (now + 1) p 3 = C at hg2 hT ⊢
  refine br_t (by show ((0 : Int) == (now + 1).tmod 1) = true; rw [Int.tmod_one]; rfl) ?_
  conv => whnf
  have hR := PartRun_v C.1 (now + 1) hg2.1 hg2.2.1
  generalize partRun C.1 (now + 1) = R at hT hR
  refine VW.raw tiOk vtOk ?_
  conv => whnf
  refine ⟨_, hR, ?_⟩
  conv => whnf
  refine VW.raw tiOk vtOk ?_
  conv => whnf
  refine VW.own tiOk vtOk 3 1 ?_
  conv => whnf
  rw [hT]
  conv => whnf
  repeat (first | (refine ⟨by with_reducible rfl, ?_⟩; conv => whnf) | (refine ⟨rfl, ?_⟩; conv => whnf))
  exact True.intro

end Go.Proofs.YtiimdlkeikcfiaaGreat.V

namespace Go.Proofs.YtiimdlkeikcfiaaGreat.V
open Go.RowKit M
set_option maxRecDepth 100000
set_option maxHeartbeats 1000000
theorem Flat_v : VC Tryz.prog 20 [iA 0] (.av (.agg [.own .i64 true [0, 0, 0, 0] []])) := by
  refine VC.go tiOk vtOk [] Tryz.func20 rfl rfl ?_
  conv => whnf
  refine ⟨_, l1In_v 0 0 3, ?_⟩
  conv => whnf
  refine VW.unroll tiOk vtOk [] 5 ?_
  conv => whnf
  repeat (first | (refine side_le (by simp [lenW, winL]) ?_; conv => whnf) | (refine br_f (by simp) ?_; conv => whnf) | (refine br_t (by simp) ?_; conv => whnf))
  conv => whnf
  repeat (first | (refine ⟨by with_reducible rfl, ?_⟩; conv => whnf) | (refine ⟨rfl, ?_⟩; conv => whnf))
  exact True.intro
def richB : List Boot := [⟨[0, 0, 0, 0], [], ⟨50, 9000, 500⟩⟩]
theorem rich_v : VC Tryz.prog 8 [] (.av (.one (.own .boot true richB []))) := by
  refine VC.go tiOk vtOk [] Tryz.func8 rfl rfl ?_
  conv => whnf
  refine ⟨_, Flat_v, ?_⟩
  conv => whnf
  conv => whnf
  repeat (first | (refine ⟨by with_reducible rfl, ?_⟩; conv => whnf) | (refine ⟨rfl, ?_⟩; conv => whnf))
  exact True.intro
def atF (l : List Int) (i : Int) : Int := if i < l.length then l.getD i.toNat 0 else (i * 37 + l.length * 11) % 256
theorem at_v (l : List Int) (i : Int) (hi : 0 ≤ i ∧ i ≤ 1000) (hl : l.length ≤ 1048576) (hb : ∀ x ∈ l, 0 ≤ x ∧ x < 256) : VC Tryz.prog 9 [.one (.ro .u8 l), iA i] (iR (atF l i)) := by
  refine VC.go tiOk vtOk [] Tryz.func9 rfl rfl ?_
  conv => whnf
  by_cases h : i < l.length
  · have e : atF l i = l.getD i.toNat 0 := if_pos h
    rw [e]
    refine br_t (by simpa using h) ?_
    conv => whnf
    refine idx_of hi.1 ?_
    conv => whnf
    refine side_lt (show i.toNat < l.length by omega) ?_
    conv => whnf
    have hm := hb _ (getD_mem (d := (0 : Int)) (show i.toNat < l.length by omega))
    exact ⟨congrArg _ (wrap_in (n := l.getD i.toNat (0 : Int)) (by omega)), True.intro⟩
  · have e : atF l i = (i * 37 + l.length * 11) % 256 := if_neg h
    rw [e]
    refine br_f (by simpa using h) ?_
    conv => whnf
    exact ⟨congrArg _ (by rw [wrap_in (n := i * 37) (by omega), wrap_in (n := (l.length : Int) * 11) (by omega), wrap_in (by omega), Int.tmod_eq_emod_of_nonneg (by omega)]), True.intro⟩
theorem big_v (l : List Int) (hl : l.length ≤ 1048576) : VC Tryz.prog 5 [.one (.ro .u8 l)] (bR false) := by
  refine VC.go tiOk vtOk [] Tryz.func5 rfl rfl ?_
  conv => whnf
  exact ⟨congrArg _ (by simp; omega), True.intro⟩
theorem do_v1 (now : Int) (p : Part) (th : Int) (c : Call) (hb : partG p) (hk : 1 ≤ c.kind ∧ c.kind ≤ 5) (hw : worldOk1 now p = true) : VC Tryz.prog 11 [.agg [iV now, .ro .part [p]], iA 0, iA th, .one (.ro .call [c])] (.tup [.agg [iV now, .own .part true [(callP now p th c).1] []], .agg [iV (callP now p th c).2.1, iV (callP now p th c).2.2]]) := by
  have hv := WorldCall_v now p th c hb hk hw
  generalize callP now p th c = R at hv ⊢
  refine VC.go tiOk vtOk [] Tryz.func11 rfl rfl ?_
  conv => whnf
  refine VW.unroll tiOk vtOk [] 2 ?_
  conv => whnf
  refine ⟨_, hv, ?_⟩
  conv => whnf
  conv => whnf
  repeat (first | (refine ⟨by with_reducible rfl, ?_⟩; conv => whnf) | (refine ⟨rfl, ?_⟩; conv => whnf))
  exact True.intro
def waitN (now : Int) (p : Part) : Nat → Part
  | 0 => p
  | k + 1 => tickP (now + k) (waitN now p k)
def waitB (now : Int) (p : Part) (n : Nat) : Prop := ∀ k, k < n → TickB (now + k) (waitN now p k)
def waitS (now : Int) (p : Part) (n k : Nat) : VSt := match k with
  | 0 => stV 14 [(1, .av (iA n)), (2, .av (.one (.ptr [2] 0 0))), (4, .av (.one (.ptr [4] 0 0))), (5, .av (.one (iV 0)))] [(2, some (.box [iV now, .ro .part [p]])), (4, some (.box [iV 0, .sc (.slice none 0 0)]))]
  | k + 1 => stV 14 [(1, .av (iA n)), (2, .av (.one (.ptr [2] 0 0))), (4, .av (.one (.ptr [4] 0 0))), (5, .av (.one (iV ((k + 1 : Nat) : Int))))] [(2, some (.box [iV (now + ((k + 1 : Nat) : Int)), .own .part true [waitN now p (k + 1)] []])), (4, some (.box [iV 0, .sc (.slice none 0 0)]))]
theorem wait_v (now : Int) (p : Part) (n : Nat) (h0 : 0 < n) (hn : n ≤ 1000) (hw : waitB now p n) : VC Tryz.prog 6 [.agg [iV now, .ro .part [p]], iA n] (.av (.agg [iV (now + n), .own .part true [waitN now p n] []])) := by
  refine VC.go tiOk vtOk [] Tryz.func6 rfl rfl ?_
  conv => whnf
  refine goV_loop tiOk vtOk [] (fun k : Nat => waitS now p n k) (fun k => k ≤ n) (fun k => n - k) 0 (Nat.zero_le _) rfl ?_ fun k hj => ?_
  · conv => whnf
    repeat (first | (refine ⟨by with_reducible rfl, ?_⟩; conv => whnf) | (refine ⟨rfl, ?_⟩; conv => whnf))
    exact True.intro
  cases k with
  | zero =>
    have ht := hw 0 h0
    have e0 : now + ((0 : Nat) : Int) = now := by omega
    rw [e0] at ht
    have hv := Tick_v now p ht
    have e1 : tickP now p = waitN now p 1 := by show _ = tickP (now + ((0 : Nat) : Int)) p; rw [e0]
    rw [e1] at hv
    conv => whnf
    refine br_t (by simp; omega) ?_
    conv => whnf
    refine ⟨_, hv, ?_⟩
    conv => whnf
    refine ⟨1, h0, by omega, rfl, ?_⟩
    conv => whnf
    repeat (first | (refine ⟨by with_reducible rfl, ?_⟩; conv => whnf) | (refine ⟨rfl, ?_⟩; conv => whnf))
    exact True.intro
  | succ k =>
    have e1 : waitN now p (k + 1 + 1) = tickP (now + ((k + 1 : Nat) : Int)) (waitN now p (k + 1)) := rfl
    by_cases h : k + 1 < n
    · have hv := Tick_v _ _ (hw (k + 1) h)
      rw [← e1] at hv
      have e2 : now + ((k + 1 : Nat) : Int) + 1 = now + ((k + 1 + 1 : Nat) : Int) := by omega
      rw [e2] at hv
      conv => whnf
      refine br_t (by simp; omega) ?_
      conv => whnf
      refine ⟨_, hv, ?_⟩
      conv => whnf
      refine ⟨k + 1 + 1, h, by omega, rfl, ?_⟩
      conv => whnf
      repeat (first | (refine ⟨by with_reducible rfl, ?_⟩; conv => whnf) | (refine ⟨congrArg _ (wrap_nat (k + 1) (by omega)), ?_⟩; conv => whnf) | (refine ⟨rfl, ?_⟩; conv => whnf))
      exact True.intro
    · have e : k + 1 = n := by omega
      subst e
      conv => whnf
      refine br_f (by simp) ?_
      conv => whnf
      conv => whnf
      repeat (first | (refine ⟨by with_reducible rfl, ?_⟩; conv => whnf) | (refine ⟨rfl, ?_⟩; conv => whnf))
      exact True.intro
theorem wait_0 (now : Int) (base : Option Addr) (len cap : Nat) : VC Tryz.prog 6 [.agg [iV now, .sc (.slice base len cap)], iA 0] (.av (.agg [iV now, .sc (.slice base len cap)])) := by
  refine VC.go tiOk vtOk [] Tryz.func6 rfl rfl ?_
  conv => whnf
  refine VW.unroll tiOk vtOk [] 1 ?_
  conv => whnf
  conv => whnf
  repeat (first | (refine ⟨by with_reducible rfl, ?_⟩; conv => whnf) | (refine ⟨rfl, ?_⟩; conv => whnf))
  exact True.intro
theorem wait_same (now : Int) (p : Part) : SC Tryz.prog 6 [canA (.agg [iV now, .ro .part [p]]), canA (iA 0)] 0 := by
  refine ⟨(wait_0 0 none 0 0).fn, fun w cargs G0 hB hsz ha => ?_⟩
  obtain ⟨c0, h0, r0⟩ := ha 0 _ rfl
  obtain ⟨c1, h1, r1⟩ := ha 1 _ rfl
  have r0 : R w G0 [] (.agg 2 (canL [iV now, .ro .part [p]])) c0 := r0
  cases r0 with
  | @agg _ _ _ cs hn g hg hone hr =>
  have k0 := hr 0 (by decide)
  have k1 := hr 1 (by decide)
  have k1 : R w G0 [] (.tr false 16 1 (encRow false .part [p])) (g 1) := k1
  have e0 : g 0 = .int .i64 now := by
    have k0 : R w G0 [] (.v (.int .i64 now)) (g 0) := k0
    generalize g 0 = x at k0
    cases k0
    rfl
  obtain ⟨base, cap, e1⟩ : ∃ base cap, g 1 = .slice base 1 cap := by
    generalize g 1 = x at k1
    cases k1
    exact ⟨_, _, rfl⟩
  refine ((wait_0 now base 1 cap).run w cargs G0 hB hsz (fun i m hm => ?_)).mono fun e w' ⟨c, G', he, hb, hf, hrr⟩ => ⟨c, G', he, ?_, hb, hf⟩
  · match i, hm with
    | 0, hm =>
      injection hm with hm
      subst hm
      refine ⟨_, h0, ?_⟩
      show R w G0 [] (.agg 2 (canL [iV now, .sc (.slice base 1 cap)])) (.agg cs)
      refine .agg hn g hg hone (fun i hi => ?_)
      match i, hi with
      | 0, _ => rw [e0]; exact .v
      | 1, _ => rw [e1]; exact .v
    | 1, hm =>
      injection hm with hm
      subst hm
      exact ⟨c1, h1, r1⟩
  · rw [h0]
    obtain ⟨cs', rfl, hn', hc'⟩ := (show Rr1 w' G' 0 (.agg 2 (canL [iV now, .sc (.slice base 1 cap)])) c from hrr)
    refine congrArg (fun x => some (Value.agg x)) (Array.ext (by rw [hn, hn']) (fun i hi hi' => ?_))
    obtain ⟨u, hu, _, hru⟩ := hc' i (by omega)
    have hgi := hg i (by omega)
    rw [Array.getElem?_eq_getElem hi] at hgi
    rw [Array.getElem?_eq_getElem hi'] at hu
    injection hgi with hgi
    injection hu with hu
    rw [hgi, hu]
    have hi2 : i < 2 := by omega
    match i, hi2 with
    | 0, _ =>
      have hru : RC w' G' [0] (.v (.int .i64 now)) u := hru
      rw [e0]
      cases hru
      rfl
    | 1, _ =>
      have hru : RC w' G' [1] (.v (.slice base 1 cap)) u := hru
      rw [e1]
      cases hru
      rfl

end Go.Proofs.YtiimdlkeikcfiaaGreat.V

namespace Go.Proofs.YtiimdlkeikcfiaaGreat.V
open Go.RowKit M
set_option maxRecDepth 100000
set_option maxHeartbeats 1000000
def lensOk (p : Part) : Bool := decide (p.label.length ≤ 100) && (decide (p.own.length ≤ 100) && decide (p.heap.gc.grey.length ≤ 100))
theorem objOk_objB {o : Obj} (h : objOk o = true) : objB o ∧ -1000000000000 ≤ o.wait ∧ o.wait ≤ 1000000000000 := by
  unfold objOk at h
  simp only [Bool.and_eq_true] at h
  have h := h.2
  split at h
  · simp only [sameO, Bool.and_eq_true, beq_iff_eq, decide_eq_true_eq] at h
    obtain ⟨⟨⟨⟨⟨⟨⟨_, w⟩, _⟩, _⟩, _⟩, h1⟩, h2⟩, h3⟩ := h
    have w : o.wait = 0 := w
    exact ⟨⟨by rw [h1]; decide, by rw [h2]; decide, by rw [h3]; decide⟩, by omega, by omega⟩
  · simp only [Bool.and_eq_true, inB_iff, listsB, decide_eq_true_eq, beq_iff_eq] at h
    obtain ⟨⟨⟨_, hp⟩, hl⟩, hw⟩ := h
    have hw2 : -1000000000000 ≤ o.wait ∧ o.wait ≤ 1000000000000 := by
      split at hw
      · simp only [Bool.and_eq_true, Bool.or_eq_true, beq_iff_eq, inB_iff] at hw; omega
      · simp only [Bool.and_eq_true, beq_iff_eq] at hw; omega
    refine ⟨⟨by rw [hl.1.1.2]; decide, ?_, ?_⟩, hw2⟩
    · have := hl.1.2
      split at this <;> omega
    · have := hl.2
      split at this <;> omega
theorem arenaOk_B {l : List Obj} (h : arenaOk l = true) : arenaB l := ⟨by rw [arenaOk_len h]; decide, fun o ho => objOk_objB (arenaOk_all h o ho)⟩
theorem partG_of {p : Part} (h : partOk p = true) (hl : lensOk p = true) : partG p := by
  have ha := arenaOk_B (partOk_arena h)
  have ht := treeOk_len (partOk_tree h)
  simp only [lensOk, Bool.and_eq_true, decide_eq_true_eq] at hl
  simp only [partOk, Bool.and_eq_true, decide_eq_true_eq] at h
  have htp := h.2.2.2.2.2.1
  refine ⟨⟨by omega, by omega, by omega, ha, by omega, by omega⟩, ?_, by omega⟩
  refine ⟨by omega, by omega, by omega, ha.1, fun t ht => (ha.2 t ht).1, by omega, ?_⟩
  all_goals omega
def heapFit (h : Heap) : Bool := heapOk h && decide (h.gc.grey.length ≤ 100)
theorem heapFit_B {h : Heap} (e : heapFit h = true) : heapB h := by
  simp only [heapFit, Bool.and_eq_true, decide_eq_true_eq] at e
  exact ⟨by omega, arenaOk_B (heapOk_arena e.1)⟩
def collFit (s : Part × Int) : Bool := heapFit s.1.heap && decide (s.1.tree.length ≤ 5)
def tickFit (now : Int) (p : Part) : Bool :=
  decide (now < 1000000) && (worldOk1 now p && (lensOk p && (decide (p.taps.length = 0) && (decide (p.press < 3) && (p.heap.arena.all (fun o => decide (o.wait ≤ 0)) &&
    (collFit (collN (now + 1) p 1) && (collFit (collN (now + 1) p 2) && (partOk (collN (now + 1) p 3).1 && lensOk (collN (now + 1) p 3).1))))))))
theorem tickFit_B {now : Int} {p : Part} (h : tickFit now p = true) : TickB now p := by
  simp only [tickFit, Bool.and_eq_true, decide_eq_true_eq, List.all_eq_true] at h
  obtain ⟨h1, h2, h3, h4, h5, h6, h7, h8, h9, h10⟩ := h
  have hok : partOk p = true := by
    simp only [worldOk1, Bool.and_eq_true] at h2
    exact h2.2.1
  have hg := partG_of hok h3
  refine ⟨hg, List.length_eq_zero_iff.1 h4, h5, h6, h1, h2, fun k hk => ?_, partG_of h9 h10⟩
  simp only [collFit, Bool.and_eq_true, decide_eq_true_eq] at h7 h8
  match k, hk with
  | 0, _ => exact ⟨hg.heap, by have := treeOk_len (partOk_tree hok); show p.tree.length ≤ _; omega⟩
  | 1, _ => exact ⟨heapFit_B h7.1, by omega⟩
  | 2, _ => exact ⟨heapFit_B h8.1, by omega⟩
def waitFit (now : Int) (p : Part) : Nat → Bool
  | 0 => true
  | n + 1 => waitFit now p n && tickFit (now + n) (waitN now p n)
theorem waitFit_B {now : Int} {p : Part} : ∀ {n : Nat}, waitFit now p n = true → waitB now p n
  | 0, _, k, hk => absurd hk (Nat.not_lt_zero k)
  | n + 1, h, k, hk => by
    simp only [waitFit, Bool.and_eq_true] at h
    rcases Nat.lt_succ_iff_lt_or_eq.1 hk with h1 | rfl
    · exact waitFit_B h.1 k h1
    · exact tickFit_B h.2
def callFit (now : Int) (p : Part) : Bool := worldOk1 now p && lensOk p
theorem callFit_B {now : Int} {p : Part} (h : callFit now p = true) : worldOk1 now p = true ∧ partG p := by
  simp only [callFit, Bool.and_eq_true] at h
  refine ⟨h.1, partG_of ?_ h.2⟩
  have := h.1
  simp only [worldOk1, Bool.and_eq_true] at this
  exact this.2.1
def cy0 : Part := partNew ⟨[0, 0, 0, 0], [], ⟨50, 9000, 500⟩⟩
def cyV (a : Nat) : Part := waitN 0 cy0 a
def cyA (a : Nat) : Part × Int × Int := callP a (cyV a) 1 ⟨1, 1, 0, 2, 90, 0⟩
def cyB (a : Nat) : Part × Int × Int := callP a (cyA a).1 1 ⟨1, 1, (cyA a).2.2, 3, 90, 0⟩
def cyC (a : Nat) : Part × Int × Int := callP a (cyB a).1 1 ⟨1, 2, (cyB a).2.2, 1, 90, 0⟩
def cyW (a b : Nat) : Part := waitN a (cyC a).1 b
def cyL (a b : Nat) : Part × Int × Int := callP (a + b) (cyW a b) 1 ⟨2, 0, 0, (cyC a).2.2, 0, 0⟩
def cyK (a b : Nat) (keep : Bool) : Part := bif keep then (cyL a b).1 else cyW a b
def cyM (a b : Nat) (keep : Bool) : Part × Int × Int := callP (a + b) (cyK a b keep) 1 ⟨4, (cyA a).2.2, (cyB a).2.2, 0, 0, 0⟩
def cyD (a b : Nat) (keep : Bool) : Part × Int × Int := callP (a + b) (cyM a b keep).1 1 ⟨5, (cyB a).2.2, 0, 0, 0, 0⟩
def cyE (a b : Nat) (keep : Bool) : Part := waitN (a + b) (cyM a b keep).1 15
def cyFit1 (a : Nat) : Bool := waitFit 0 cy0 a && (callFit a (cyV a) && (callFit a (cyA a).1 && (callFit a (cyB a).1 && inB (cyC a).2.2 0 29999)))
def cyFit2 (a b : Nat) : Bool := waitFit a (cyC a).1 b && callFit (a + b) (cyW a b)
def cyFit3 (a b : Nat) (keep : Bool) : Bool := callFit (a + b) (cyK a b keep) && (callFit (a + b) (cyM a b keep).1 && (waitFit (a + b) (cyM a b keep).1 15 && (partOk (cyE a b keep) && (lensOk (cyE a b keep) &&
  ((cyM a b keep).2.1 == 0 && ((cyD a b keep).2.1 == 4 && (held (cyE a b keep).heap.arena == (bif keep then 1 else 0) && (liveN (cyE a b keep).heap.arena == (bif keep then 3 else 2) &&
  decide (0 ≤ sgood (cyE a b keep).heap.arena (a + b + 15) 0 (cyC a).2.2) == keep))))))))
def cyAll (a : Nat) : Bool := cyFit1 a && (List.range 9).all (fun b => cyFit2 a b && (cyFit3 a b true && cyFit3 a b false))

end Go.Proofs.YtiimdlkeikcfiaaGreat.V

namespace Go.Proofs.YtiimdlkeikcfiaaGreat.V
open Go.RowKit M
set_option maxRecDepth 100000
set_option maxHeartbeats 1000000
/-! ### States laid bare as they are reckoned -/
def fN (n : Nat) (k : Nat → Bool) : Bool := match n with
  | 0 => k 0
  | m + 1 => k (m + 1)
theorem fN_eq (n : Nat) (k : Nat → Bool) : fN n k = k n := by cases n <;> rfl
def fI (n : Int) (k : Int → Bool) : Bool := match n with
  | .ofNat m => fN m fun m => k (.ofNat m)
  | .negSucc m => fN m fun m => k (.negSucc m)
theorem fI_eq (n : Int) (k : Int → Bool) : fI n k = k n := by cases n <;> simp only [fI, fN_eq]
def fB (b : Bool) (k : Bool → Bool) : Bool := match b with
  | true => k true
  | false => k false
theorem fB_eq (b : Bool) (k : Bool → Bool) : fB b k = k b := by cases b <;> rfl
def fL {α : Type} (f : α → (α → Bool) → Bool) (l : List α) (k : List α → Bool) : Bool := match l with
  | [] => k []
  | x :: r => f x fun x => fL f r fun r => k (x :: r)
theorem fL_eq {α : Type} {f : α → (α → Bool) → Bool} (hf : ∀ x k, f x k = k x) : ∀ (l : List α) (k : List α → Bool), fL f l k = k l
  | [], k => rfl
  | x :: r, k => by simp only [fL, hf, fL_eq hf r]
def fM (m : Msg) (k : Msg → Bool) : Bool := fI m.frm fun a => fI m.n fun b => k ⟨a, b⟩
def fO (o : Obj) (k : Obj → Bool) : Bool := fI o.gen fun a => fI o.kind fun b => fI o.inn fun c => fI o.res fun d => fI o.til fun e => fI o.pages fun f => fI o.wait fun g => fI o.got fun h => fI o.ran fun i => fB o.mark fun j => fL fI o.links fun l => fL fI o.data fun m => fL fM o.queue fun q => k ⟨a, b, c, d, e, f, g, h, i, j, l, m, q⟩
def fA (a : Amt) (k : Amt → Bool) : Bool := fI a.pages fun x => fI a.rent fun y => fI a.cpu fun z => k ⟨x, y, z⟩
def fR (r : Res) (k : Res → Bool) : Bool := fB r.live fun a => fI r.parent fun b => fA r.bal fun c => k ⟨a, b, c⟩
def fG (g : Gc) (k : Gc → Bool) : Bool := fI g.phase fun a => fI g.at_ fun b => fI g.round fun c => fL fI g.grey fun d => k ⟨a, b, c, d⟩
def fH (h : Heap) (k : Heap → Bool) : Bool := fL fO h.arena fun a => fG h.gc fun b => k ⟨a, b⟩
def fP (p : Part) (k : Part → Bool) : Bool := fL fI p.label fun a => fL fI p.own fun b => fL fR p.tree fun c => fH p.heap fun d => fL (fun t k => k t) p.taps fun e => fI p.next fun f => fI p.want fun g => fA p.spent fun h => fI p.press fun i => fI p.lost fun j => k ⟨a, b, c, d, e, f, g, h, i, j⟩
theorem fM_eq (m : Msg) (k : Msg → Bool) : fM m k = k m := by simp only [fM, fI_eq]
theorem fO_eq (o : Obj) (k : Obj → Bool) : fO o k = k o := by simp only [fO, fI_eq, fB_eq, fL_eq fI_eq, fL_eq fM_eq]
theorem fA_eq (a : Amt) (k : Amt → Bool) : fA a k = k a := by simp only [fA, fI_eq]
theorem fR_eq (r : Res) (k : Res → Bool) : fR r k = k r := by simp only [fR, fI_eq, fB_eq, fA_eq]
theorem fG_eq (g : Gc) (k : Gc → Bool) : fG g k = k g := by simp only [fG, fI_eq, fL_eq fI_eq]
theorem fH_eq (h : Heap) (k : Heap → Bool) : fH h k = k h := by simp only [fH, fL_eq fO_eq, fG_eq]
theorem fP_eq (p : Part) (k : Part → Bool) : fP p k = k p := by simp only [fP, fI_eq, fA_eq, fH_eq, fL_eq fI_eq, fL_eq fR_eq, fL_eq (f := fun t k => k t) (fun _ _ => rfl)]
def tickRun (now : Int) (p : Part) (k : Part → Bool) : Bool :=
  decide (now < 1000000) && (worldOk1 now p && (lensOk p && (decide (p.taps.length = 0) && (decide (p.press < 3) && (p.heap.arena.all (fun o => decide (o.wait ≤ 0)) &&
    fP (coll1 (now + 1) (p, 0)).1 fun p1 => collFit (p1, 0) && fP (coll1 (now + 1) (p1, 0)).1 fun p2 => collFit (p2, 0) && fP (coll1 (now + 1) (p2, 0)).1 fun p3 => partOk p3 && (lensOk p3 && fP (partRun p3 (now + 1)).1 k))))))
theorem coll1_fst (now : Int) (p : Part) (a b : Int) : (coll1 now (p, a)).1 = (coll1 now (p, b)).1 := by
  unfold coll1
  simp only
  split <;> rfl
theorem collN_fst (now : Int) (p : Part) (n : Nat) : (collN now p (n + 1)).1 = (coll1 now ((collN now p n).1, 0)).1 := coll1_fst now (collN now p n).1 _ 0
theorem tickRun_at {now : Int} {p : Part} {k : Part → Bool} (h : tickRun now p k = true) : TickB now p ∧ k (tickP now p) = true := by
  simp only [tickRun, fP_eq, Bool.and_eq_true] at h
  obtain ⟨h1, h2, h3, h4, h5, h6, h7, h8, h9, h10, h11⟩ := h
  have e1 : (collN (now + 1) p 1).1 = (coll1 (now + 1) (p, 0)).1 := rfl
  have e2 : (collN (now + 1) p 2).1 = (coll1 (now + 1) ((coll1 (now + 1) (p, 0)).1, 0)).1 := collN_fst _ _ 1
  have e3 : (collN (now + 1) p 3).1 = (coll1 (now + 1) ((coll1 (now + 1) ((coll1 (now + 1) (p, 0)).1, 0)).1, 0)).1 := by rw [collN_fst, e2]
  rw [← e3] at h9 h10 h11
  refine ⟨tickFit_B ?_, h11⟩
  simp only [tickFit, Bool.and_eq_true]
  refine ⟨h1, h2, h3, h4, h5, h6, ?_, ?_, h9, h10⟩
  · rw [← e1] at h7; exact h7
  · rw [← e2] at h8; exact h8
def waitRun (now : Int) : Nat → Part → (Part → Bool) → Bool
  | 0, p, k => k p
  | n + 1, p, k => tickRun now p fun q => fI (now + 1) fun now => waitRun now n q k
theorem waitN_shift (now : Int) (p : Part) : ∀ n, waitN (now + 1) (tickP now p) n = waitN now p (n + 1)
  | 0 => by show tickP now p = tickP (now + ((0 : Nat) : Int)) p; rw [show now + ((0 : Nat) : Int) = now by omega]
  | n + 1 => by
    show tickP (now + 1 + n) (waitN (now + 1) (tickP now p) n) = tickP (now + ((n + 1 : Nat) : Int)) (waitN now p (n + 1))
    rw [waitN_shift now p n, show now + 1 + (n : Int) = now + ((n + 1 : Nat) : Int) by omega]
theorem waitRun_at {k : Part → Bool} : ∀ {n : Nat} {now : Int} {p : Part}, waitRun now n p k = true → waitB now p n ∧ k (waitN now p n) = true
  | 0, now, p, h => ⟨fun j hj => absurd hj (Nat.not_lt_zero j), h⟩
  | n + 1, now, p, h => by
    unfold waitRun at h
    obtain ⟨h1, h2⟩ := tickRun_at h
    rw [fI_eq] at h2
    obtain ⟨h3, h4⟩ := waitRun_at h2
    rw [waitN_shift] at h4
    refine ⟨fun j hj => ?_, h4⟩
    cases j with
    | zero => rw [show now + ((0 : Nat) : Int) = now by omega]; exact h1
    | succ j =>
      have := h3 j (by omega)
      rw [waitN_shift] at this
      rw [show now + ((j + 1 : Nat) : Int) = now + 1 + j by omega]
      exact this
def callRun (now : Int) (p : Part) (c : Call) (k : Part × Int × Int → Bool) : Bool := worldOk1 now p && (lensOk p && fP (callP now p 1 c).1 fun q => fI (callP now p 1 c).2.1 fun a => fI (callP now p 1 c).2.2 fun b => k (q, a, b))
theorem callRun_at {now : Int} {p : Part} {c : Call} {k : Part × Int × Int → Bool} (h : callRun now p c k = true) : (worldOk1 now p = true ∧ partG p) ∧ k (callP now p 1 c) = true := by
  simp only [callRun, fP_eq, fI_eq, Bool.and_eq_true] at h
  exact ⟨callFit_B (by simp only [callFit, Bool.and_eq_true]; exact ⟨h.1, h.2.1⟩), h.2.2⟩
def endRun (now : Int) (A B C : Int) (p : Part) (keep : Bool) : Bool :=
  callRun now p ⟨4, A, B, 0, 0, 0⟩ fun m => m.2.1 == 0 && (callRun now m.1 ⟨5, B, 0, 0, 0, 0⟩ fun d => d.2.1 == 4 && waitRun now 15 m.1 fun e => partOk e && (lensOk e && (held e.heap.arena == (bif keep then 1 else 0) && (liveN e.heap.arena == (bif keep then 3 else 2) && decide (0 ≤ sgood e.heap.arena (now + 15) 0 C) == keep))))
def cyRun (a b : Nat) (keep : Bool) : Bool :=
  waitRun 0 a cy0 fun v => callRun a v ⟨1, 1, 0, 2, 90, 0⟩ fun A => callRun a A.1 ⟨1, 1, A.2.2, 3, 90, 0⟩ fun B => callRun a B.1 ⟨1, 2, B.2.2, 1, 90, 0⟩ fun C => inB C.2.2 0 29999 && (waitRun a b C.1 fun w => bif keep then callRun (a + b) w ⟨2, 0, 0, C.2.2, 0, 0⟩ (fun L => endRun (a + b) A.2.2 B.2.2 C.2.2 L.1 true) else endRun (a + b) A.2.2 B.2.2 C.2.2 w false)

end Go.Proofs.YtiimdlkeikcfiaaGreat.V

namespace Go.Proofs.YtiimdlkeikcfiaaGreat.V
open Go.RowKit M
set_option maxRecDepth 100000
set_option maxHeartbeats 1000000
set_option maxHeartbeats 16000000
theorem WorldNew1_v : VC Tryz.prog 7 [.one (.ro .boot richB)] (.av (.agg [iV 0, .own .part true [cy0] []])) :=
  WorldNew_v richB ⟨by decide, fun x hx => by rw [List.mem_singleton.1 hx]; decide⟩ (by decide +kernel) (fun x hx => by rw [List.mem_singleton.1 hx]; decide +kernel)
theorem atF_in (l : List Int) (i : Int) (hi : 0 ≤ i ∧ i ≤ 1000) (hb : ∀ x ∈ l, 0 ≤ x ∧ x < 256) : 0 ≤ atF l i ∧ atF l i < 256 := by
  unfold atF
  split
  · exact hb _ (getD_mem (by omega))
  · omega
theorem bigT_v (l : List Int) (hl : 1048576 < l.length) : VC Tryz.prog 5 [.one (.ro .u8 l)] (bR true) := by
  refine VC.go tiOk vtOk [] Tryz.func5 rfl rfl ?_
  conv => whnf
  exact ⟨congrArg _ (by simp; omega), True.intro⟩
structure EndF (now : Int) (A B C : Int) (p : Part) (keep : Bool) (M D : Part × Int × Int) (E : Part) : Prop where
  v5 : VC Tryz.prog 11 [.agg [iV now, .ro .part [p]], iA 0, iA 1, .one (.ro .call [⟨4, A, B, 0, 0, 0⟩])] (.tup [.agg [iV now, .own .part true [M.1] []], .agg [iV M.2.1, iV M.2.2]])
  v6 : VC Tryz.prog 11 [.agg [iV now, .ro .part [M.1]], iA 0, iA 1, .one (.ro .call [⟨5, B, 0, 0, 0, 0⟩])] (.tup [.agg [iV now, .own .part true [D.1] []], .agg [iV D.2.1, iV D.2.2]])
  v7 : VC Tryz.prog 6 [.agg [iV now, .ro .part [M.1]], iA 15] (.av (.agg [iV (now + 15), .own .part true [E] []]))
  m0 : M.2.1 = 0
  d4 : D.2.1 = 4
  ok : partOk E = true
  e1 : held E.heap.arena = bif keep then 1 else 0
  e2 : liveN E.heap.arena = bif keep then 3 else 2
  e3 : decide (0 ≤ sgood E.heap.arena (now + 15) 0 C) = keep
theorem endRun_at {now A B C : Int} {p : Part} {keep : Bool} (h : endRun now A B C p keep = true) : ∃ M D E, EndF now A B C p keep M D E := by
  unfold endRun at h
  obtain ⟨⟨c5, g5⟩, h⟩ := callRun_at h
  have v5 := do_v1 now p 1 ⟨4, A, B, 0, 0, 0⟩ g5 ⟨show (1 : Int) ≤ 4 by decide, show (4 : Int) ≤ 5 by decide⟩ c5
  generalize callP now p 1 ⟨4, A, B, 0, 0, 0⟩ = M at *
  rw [Bool.and_eq_true] at h
  obtain ⟨m0, h⟩ := h
  obtain ⟨⟨c6, g6⟩, h⟩ := callRun_at h
  have v6 := do_v1 now M.1 1 ⟨5, B, 0, 0, 0, 0⟩ g6 ⟨show (1 : Int) ≤ 5 by decide, show (5 : Int) ≤ 5 by decide⟩ c6
  generalize callP now M.1 1 ⟨5, B, 0, 0, 0, 0⟩ = D at *
  rw [Bool.and_eq_true] at h
  obtain ⟨d4, h⟩ := h
  obtain ⟨w7, h⟩ := waitRun_at h
  have v7 := wait_v now M.1 15 (by decide) (by decide) w7
  generalize waitN now M.1 15 = E at *
  simp only [Bool.and_eq_true, beq_iff_eq] at h m0 d4
  exact ⟨M, D, E, v5, v6, v7, m0, d4, h.1, h.2.2.1, h.2.2.2.1, h.2.2.2.2⟩
theorem FnCycle_v (l : List Int) (hb : ∀ x ∈ l, 0 ≤ x ∧ x < 256) (hC : ∀ a b keep, a < 20 → b < 9 → cyRun a b keep = true) : VC Tryz.prog 3 [.one (.ro .u8 l)] (bR true) := by
  by_cases hl : 1048576 < l.length
  · refine VC.go tiOk vtOk [] Tryz.func3 rfl rfl ?_
    conv => whnf
    refine ⟨_, bigT_v l hl, ?_⟩
    conv => whnf
    conv => whnf
    repeat (first | (refine ⟨by with_reducible rfl, ?_⟩; conv => whnf) | (refine ⟨rfl, ?_⟩; conv => whnf))
    exact True.intro
  replace hl : l.length ≤ 1048576 := by omega
  have a0 := atF_in l 0 (by omega) hb
  have a1 := atF_in l 1 (by omega) hb
  have a2 := atF_in l 2 (by omega) hb
  have t0 := at_v l 0 (by omega) hl hb
  have t1 := at_v l 1 (by omega) hl hb
  have t2 := at_v l 2 (by omega) hl hb
  obtain ⟨a, ea⟩ : ∃ a : Nat, (atF l 0).tmod 20 = (a : Int) := ⟨((atF l 0).tmod 20).toNat, by rw [Int.tmod_eq_emod_of_nonneg (by omega)]; omega⟩
  obtain ⟨b, eb⟩ : ∃ b : Nat, (atF l 1).tmod 9 = (b : Int) := ⟨((atF l 1).tmod 9).toNat, by rw [Int.tmod_eq_emod_of_nonneg (by omega)]; omega⟩
  have ha : a < 20 := by rw [Int.tmod_eq_emod_of_nonneg (by omega)] at ea; omega
  have hbb : b < 9 := by rw [Int.tmod_eq_emod_of_nonneg (by omega)] at eb; omega
  obtain ⟨keep, ek⟩ : ∃ k : Bool, ((atF l 2).tmod 2 == 0) = k := ⟨_, rfl⟩
  have h := hC a b keep ha hbb
  clear hC
  generalize atF l 0 = x0 at t0 ea
  generalize atF l 1 = x1 at t1 eb
  generalize atF l 2 = x2 at t2 ek
  unfold cyRun at h
  obtain ⟨w1, h⟩ := waitRun_at h
  obtain ⟨⟨c1, g1⟩, h⟩ := callRun_at h
  have v0 := wait_v 0 cy0 a
  have v0s := wait_same 0 cy0
  generalize hV : waitN 0 cy0 a = V at *
  have v1 := do_v1 a V 1 ⟨1, 1, 0, 2, 90, 0⟩ g1 ⟨show (1 : Int) ≤ 1 by decide, show (1 : Int) ≤ 5 by decide⟩ c1
  generalize callP a V 1 ⟨1, 1, 0, 2, 90, 0⟩ = A at *
  obtain ⟨⟨c2, g2⟩, h⟩ := callRun_at h
  have v2 := do_v1 a A.1 1 ⟨1, 1, A.2.2, 3, 90, 0⟩ g2 ⟨show (1 : Int) ≤ 1 by decide, show (1 : Int) ≤ 5 by decide⟩ c2
  generalize callP a A.1 1 ⟨1, 1, A.2.2, 3, 90, 0⟩ = B at *
  obtain ⟨⟨c3, g3⟩, h⟩ := callRun_at h
  have v3 := do_v1 a B.1 1 ⟨1, 2, B.2.2, 1, 90, 0⟩ g3 ⟨show (1 : Int) ≤ 1 by decide, show (1 : Int) ≤ 5 by decide⟩ c3
  generalize callP a B.1 1 ⟨1, 2, B.2.2, 1, 90, 0⟩ = C at *
  rw [Bool.and_eq_true] at h
  obtain ⟨hh, h⟩ := h
  obtain ⟨w2, h⟩ := waitRun_at h
  have v4 := wait_v a C.1 b
  have v4s := wait_same a C.1
  generalize hW : waitN a C.1 b = W at *
  have z0 : (0 : Int) + (a : Int) = (a : Int) := by omega
  rw [z0] at v0
  have hrt : ∀ {x : Int}, x = x := rfl
  refine VC.go tiOk vtOk [3,4,8,9,11,13,15,16,21] Tryz.func3 rfl rfl ?_
  conv => whnf
  refine ⟨_, big_v l hl, ?_⟩
  conv => whnf
  have key : (a = 0 ∧ cy0 = V) ∨ 0 < a := by
    rcases Nat.eq_zero_or_pos a with e | e
    · subst e; exact .inl ⟨rfl, hV⟩
    · exact .inr e
  have key2 : (b = 0 ∧ C.1 = W) ∨ 0 < b := by
    rcases Nat.eq_zero_or_pos b with e | e
    · subst e; exact .inl ⟨rfl, hW⟩
    · exact .inr e
  clear hV hW
  rcases key with ⟨e0, e1⟩ | hpos
  focus
    have v0s' : SC Tryz.prog 6 [canA (.agg [iV 0, .ro .part [cy0]]), canA (iA a)] 0 := by rw [e0]; exact v0s
    refine VW.same tiOk vtOk 0 5 ?_
    conv => whnf
    refine ⟨_, rich_v, ?_⟩
    conv => whnf
    refine ⟨_, WorldNew1_v, ?_⟩
    conv => whnf
    refine ⟨_, t0, ?_⟩
    conv => whnf
    rw [ea]
    refine ⟨v0s', ?_⟩
    conv => whnf
    refine VW.sub (s' := stV 141 [(0, .av (.one (.ro .u8 l))), (2, .av (.one (bV false))), (3, .av (.one (.ptr [3] 0 0)))] [(3, some (.box [iV a, .own .part true [V] []]))]) rfl ?_ ?_
    · conv => whnf
      repeat (first | (refine ⟨by with_reducible rfl, ?_⟩; conv => whnf) | (refine ⟨congrArg _ (show (0 : Int) = (a : Int) by omega), ?_⟩; conv => whnf) | (refine ⟨(by rw [e1]), ?_⟩; conv => whnf) | (refine ⟨rfl, ?_⟩; conv => whnf))
      exact True.intro
  rotate_left
  focus
    refine VW.reg tiOk vtOk ?_
    conv => whnf
    refine ⟨_, rich_v, ?_⟩
    conv => whnf
    refine ⟨_, WorldNew1_v, ?_⟩
    conv => whnf
    refine ⟨_, t0, ?_⟩
    conv => whnf
    rw [ea]
    refine ⟨_, v0 hpos (by omega) w1, ?_⟩
    conv => whnf
    refine VW.sub (s' := stV 141 [(0, .av (.one (.ro .u8 l))), (2, .av (.one (bV false))), (3, .av (.one (.ptr [3] 0 0)))] [(3, some (.box [iV a, .own .part true [V] []]))]) rfl ?_ ?_
    · conv => whnf
      repeat (first | (refine ⟨by with_reducible rfl, ?_⟩; conv => whnf) | (refine ⟨rfl, ?_⟩; conv => whnf))
      exact True.intro
  all_goals
    refine VW.reg tiOk vtOk ?_
    conv => whnf
    refine ⟨_, sHandleOf_v, ?_⟩
    conv => whnf
    refine ⟨_, v1, ?_⟩
    conv => whnf
    refine ⟨_, v2, ?_⟩
    conv => whnf
    refine ⟨_, v3, ?_⟩
    conv => whnf
    rcases key2 with ⟨e0, e1⟩ | hpos2
    focus
      have v4s' : SC Tryz.prog 6 [canA (.agg [iV a, .ro .part [C.1]]), canA (iA b)] 0 := by rw [e0]; exact v4s
      refine VW.expl 3 1 777 ?_
      conv => whnf
      refine VW.sameD tiOk vtOk rfl 0 4 ?_
      conv => whnf
      refine ⟨_, t1, ?_⟩
      conv => whnf
      rw [eb]
      refine ⟨v4s', ?_⟩
      conv => whnf
      refine VW.sub (s' := stV 141 [(0, .av (.one (.ro .u8 l))), (2, .av (.one (bV false))), (3, .av (.one (.ptr [3] 0 0))), (4, .av (.one (iV 0))), (5, .av (.one (.ptr [5] 0 0))), (6, .av (.one (.ptr [6] 0 0))), (7, .av (.one (.ptr [7] 0 0)))] [(3, some (.box [iV ((a : Int) + (b : Int)), .own .part true [W] []])), (5, some (.box [iV A.2.1, iV A.2.2])), (6, some (.box [iV B.2.1, iV B.2.2])), (7, some (.box [iV C.2.1, iV C.2.2]))]) rfl ?_ ?_
      · conv => whnf
        repeat (first | (refine ⟨by with_reducible rfl, ?_⟩; conv => whnf) | (refine ⟨congrArg _ (show (a : Int) = (a : Int) + (b : Int) by omega), ?_⟩; conv => whnf) | (refine ⟨(by rw [e1]), ?_⟩; conv => whnf) | (refine ⟨rfl, ?_⟩; conv => whnf))
        exact True.intro
    rotate_left
    focus
      refine VW.drw tiOk vtOk rfl ?_
      conv => whnf
      refine ⟨_, t1, ?_⟩
      conv => whnf
      rw [eb]
      refine ⟨_, v4 hpos2 (by omega) w2, ?_⟩
      conv => whnf
      refine VW.sub (s' := stV 141 [(0, .av (.one (.ro .u8 l))), (2, .av (.one (bV false))), (3, .av (.one (.ptr [3] 0 0))), (4, .av (.one (iV 0))), (5, .av (.one (.ptr [5] 0 0))), (6, .av (.one (.ptr [6] 0 0))), (7, .av (.one (.ptr [7] 0 0)))] [(3, some (.box [iV ((a : Int) + (b : Int)), .own .part true [W] []])), (5, some (.box [iV A.2.1, iV A.2.2])), (6, some (.box [iV B.2.1, iV B.2.2])), (7, some (.box [iV C.2.1, iV C.2.2]))]) rfl ?_ ?_
      · conv => whnf
        repeat (first | (refine ⟨by with_reducible rfl, ?_⟩; conv => whnf) | (refine ⟨rfl, ?_⟩; conv => whnf))
        exact True.intro
  all_goals
    clear v0 v0s v1 v2 v3 v4 v4s w1 w2 c1 c2 c3 g1 g2 g3
    refine VW.reg tiOk vtOk ?_
    conv => whnf
    refine ⟨_, t2, ?_⟩
    conv => whnf
    rw [ek]
    cases keep
    focus
      obtain ⟨M, D, E, hE⟩ := endRun_at h
      conv => whnf
      refine VW.sub (s' := stV 141 [(2, .av (.one (bV false))), (3, .av (.one (.ptr [3] 0 0))), (5, .av (.one (.ptr [5] 0 0))), (6, .av (.one (.ptr [6] 0 0))), (7, .av (.one (.ptr [7] 0 0))), (8, .av (.one (bV false)))] [(3, some (.box [iV ((a : Int) + (b : Int)), .own .part true [W] []])), (5, some (.box [iV A.2.1, iV A.2.2])), (6, some (.box [iV B.2.1, iV B.2.2])), (7, some (.box [iV C.2.1, iV C.2.2]))]) rfl ?_ ?_
      · conv => whnf
        repeat (first | (refine ⟨by with_reducible rfl, ?_⟩; conv => whnf) | (refine ⟨rfl, ?_⟩; conv => whnf))
        exact True.intro
      refine VW.reg tiOk vtOk ?_
      conv => whnf
      refine ⟨_, hE.v5, ?_⟩
      conv => whnf
      refine ⟨_, hE.v6, ?_⟩
      conv => whnf
      refine VW.drw tiOk vtOk rfl ?_
      conv => whnf
      refine ⟨_, GcBound_v, ?_⟩
      conv => whnf
      refine ⟨_, hE.v7, ?_⟩
      conv => whnf
      refine VW.reg tiOk vtOk ?_
      conv => whnf
      have hE0 := hE.m0
      have hE4 := hE.d4
      have hok := hE.ok
      have ha := arenaOk_B (partOk_arena hok)
      have hl0 := arenaOk_len (partOk_arena hok)
      have q1 := Held_v E ha hl0 (arenaOk_all (partOk_arena hok))
      have q2 := LiveCount_v ((a : Int) + (b : Int) + 15) E (by rw [hl0]; decide)
      have q3 := sGoodSlot_v E.heap.arena ((a : Int) + (b : Int) + 15) 0 C.2.2 ha (partOk_arena hok) hh
      have e3 := hE.e3
      rw [hE.e1] at q1
      rw [hE.e2] at q2
      generalize sgood E.heap.arena ((a : Int) + (b : Int) + 15) 0 C.2.2 = gs at q3 e3
      refine VW.drw tiOk vtOk rfl ?_
      conv => whnf
      refine br_t (by rw [hE0]; rfl) ?_
      conv => whnf
      refine br_t (by rw [hE4]; rfl) ?_
      conv => whnf
      refine ⟨_, q1, ?_⟩
      conv => whnf
      refine ⟨_, q2, ?_⟩
      conv => whnf
      refine ⟨_, q3, ?_⟩
      conv => whnf
      rw [e3]
      refine ⟨boolTy, ?_⟩
      conv => whnf
      conv => whnf
      repeat (first | (refine ⟨by with_reducible rfl, ?_⟩; conv => whnf) | (refine ⟨rfl, ?_⟩; conv => whnf))
      exact True.intro
    focus
      rw [cond_true] at h
      obtain ⟨⟨c4, g4⟩, h⟩ := callRun_at h
      have v5 := do_v1 ((a : Int) + (b : Int)) W 1 ⟨2, 0, 0, C.2.2, 0, 0⟩ g4 ⟨show (1 : Int) ≤ 2 by decide, show (2 : Int) ≤ 5 by decide⟩ c4
      generalize callP ((a : Int) + (b : Int)) W 1 ⟨2, 0, 0, C.2.2, 0, 0⟩ = L at *
      obtain ⟨M, D, E, hE⟩ := endRun_at h
      conv => whnf
      refine VW.raw tiOk vtOk ?_
      conv => whnf
      refine ⟨_, v5, ?_⟩
      conv => whnf
      refine VW.sub (s' := stV 141 [(2, .av (.one (bV false))), (3, .av (.one (.ptr [3] 0 0))), (5, .av (.one (.ptr [5] 0 0))), (6, .av (.one (.ptr [6] 0 0))), (7, .av (.one (.ptr [7] 0 0))), (8, .av (.one (bV true)))] [(3, some (.box [iV ((a : Int) + (b : Int)), .own .part true [L.1] []])), (5, some (.box [iV A.2.1, iV A.2.2])), (6, some (.box [iV B.2.1, iV B.2.2])), (7, some (.box [iV C.2.1, iV C.2.2]))]) rfl ?_ ?_
      · conv => whnf
        repeat (first | (refine ⟨by with_reducible rfl, ?_⟩; conv => whnf) | (refine ⟨rfl, ?_⟩; conv => whnf))
        exact True.intro
      refine VW.reg tiOk vtOk ?_
      conv => whnf
      refine ⟨_, hE.v5, ?_⟩
      conv => whnf
      refine ⟨_, hE.v6, ?_⟩
      conv => whnf
      refine VW.drw tiOk vtOk rfl ?_
      conv => whnf
      refine ⟨_, GcBound_v, ?_⟩
      conv => whnf
      refine ⟨_, hE.v7, ?_⟩
      conv => whnf
      refine VW.reg tiOk vtOk ?_
      conv => whnf
      have hE0 := hE.m0
      have hE4 := hE.d4
      have hok := hE.ok
      have ha := arenaOk_B (partOk_arena hok)
      have hl0 := arenaOk_len (partOk_arena hok)
      have q1 := Held_v E ha hl0 (arenaOk_all (partOk_arena hok))
      have q2 := LiveCount_v ((a : Int) + (b : Int) + 15) E (by rw [hl0]; decide)
      have q3 := sGoodSlot_v E.heap.arena ((a : Int) + (b : Int) + 15) 0 C.2.2 ha (partOk_arena hok) hh
      have e3 := hE.e3
      rw [hE.e1] at q1
      rw [hE.e2] at q2
      generalize sgood E.heap.arena ((a : Int) + (b : Int) + 15) 0 C.2.2 = gs at q3 e3
      refine VW.drw tiOk vtOk rfl ?_
      conv => whnf
      refine br_t (by rw [hE0]; rfl) ?_
      conv => whnf
      refine br_t (by rw [hE4]; rfl) ?_
      conv => whnf
      refine ⟨_, q1, ?_⟩
      conv => whnf
      refine ⟨_, q2, ?_⟩
      conv => whnf
      refine ⟨_, q3, ?_⟩
      conv => whnf
      rw [e3]
      refine ⟨boolTy, ?_⟩
      conv => whnf
      conv => whnf
      repeat (first | (refine ⟨by with_reducible rfl, ?_⟩; conv => whnf) | (refine ⟨rfl, ?_⟩; conv => whnf))
      exact True.intro

end Go.Proofs.YtiimdlkeikcfiaaGreat.V

namespace Go.Proofs.YtiimdlkeikcfiaaGreat.V
open Go.RowKit M
set_option maxRecDepth 100000
set_option maxHeartbeats 1000000
theorem tickRun_mono {now : Int} {p : Part} {k k' : Part → Bool} (h : tickRun now p k = true) (hk : ∀ q, k q = true → k' q = true) : tickRun now p k' = true := by
  simp only [tickRun, fP_eq, Bool.and_eq_true] at h ⊢
  obtain ⟨h1, h2, h3, h4, h5, h6, h7, h8, h9, h10, h11⟩ := h
  exact ⟨h1, h2, h3, h4, h5, h6, h7, h8, h9, h10, hk _ h11⟩
theorem waitRun_mono {k k' : Part → Bool} (hk : ∀ q, k q = true → k' q = true) : ∀ {n : Nat} {now : Int} {p : Part}, waitRun now n p k = true → waitRun now n p k' = true
  | 0, now, p, h => hk _ h
  | n + 1, now, p, h => by
    unfold waitRun at h ⊢
    refine tickRun_mono h (fun q hq => ?_)
    rw [fI_eq] at hq ⊢
    exact waitRun_mono hk hq
theorem callRun_mono {now : Int} {p : Part} {c : Call} {k k' : Part × Int × Int → Bool} (h : callRun now p c k = true) (hk : ∀ q, k q = true → k' q = true) : callRun now p c k' = true := by
  simp only [callRun, fP_eq, fI_eq, Bool.and_eq_true] at h ⊢
  exact ⟨h.1, h.2.1, hk _ h.2.2⟩
def bothRun (A B C now : Int) (w : Part) : Bool := callRun now w ⟨2, 0, 0, C, 0, 0⟩ (fun L => endRun now A B C L.1 true) && endRun now A B C w false
def bRun (A B C : Int) : Nat → Int → Part → Bool
  | 0, now, w => bothRun A B C now w
  | n + 1, now, w => bothRun A B C now w && tickRun now w fun q => fI (now + 1) fun now => bRun A B C n now q
theorem bRun_at {A B C : Int} : ∀ {n b : Nat} {now : Int} {w : Part}, b ≤ n → bRun A B C n now w = true → waitRun now b w (fun w => bothRun A B C (now + b) w) = true
  | n, 0, now, w, _, h => by
    have e : now + ((0 : Nat) : Int) = now := by omega
    show bothRun A B C (now + ((0 : Nat) : Int)) w = true
    rw [e]
    cases n with
    | zero => exact h
    | succ n =>
      unfold bRun at h
      rw [Bool.and_eq_true] at h
      exact h.1
  | 0, b + 1, now, w, hb, _ => absurd hb (by omega)
  | n + 1, b + 1, now, w, hb, h => by
    unfold bRun at h
    rw [Bool.and_eq_true] at h
    unfold waitRun
    refine tickRun_mono h.2 (fun q hq => ?_)
    rw [fI_eq] at hq ⊢
    have := bRun_at (b := b) (by omega) hq
    rw [show now + 1 + (b : Int) = now + ((b + 1 : Nat) : Int) by omega] at this
    exact this
def stage (a : Nat) : Bool :=
  waitRun 0 a cy0 fun v => callRun a v ⟨1, 1, 0, 2, 90, 0⟩ fun A => callRun a A.1 ⟨1, 1, A.2.2, 3, 90, 0⟩ fun B => callRun a B.1 ⟨1, 2, B.2.2, 1, 90, 0⟩ fun C => inB C.2.2 0 29999 && bRun A.2.2 B.2.2 C.2.2 8 a C.1
theorem stage_at {a b : Nat} {keep : Bool} (hb : b < 9) (h : stage a = true) : cyRun a b keep = true := by
  unfold stage at h
  unfold cyRun
  refine waitRun_mono (fun v h => ?_) h
  refine callRun_mono h (fun A h => ?_)
  refine callRun_mono h (fun B h => ?_)
  refine callRun_mono h (fun C h => ?_)
  rw [Bool.and_eq_true] at h ⊢
  refine ⟨h.1, ?_⟩
  have := bRun_at (b := b) (by omega) h.2
  refine waitRun_mono (fun w h => ?_) this
  unfold bothRun at h
  rw [Bool.and_eq_true] at h
  cases keep
  · rw [cond_false]; exact h.2
  · rw [cond_true]; exact h.1

end Go.Proofs.YtiimdlkeikcfiaaGreat.V
