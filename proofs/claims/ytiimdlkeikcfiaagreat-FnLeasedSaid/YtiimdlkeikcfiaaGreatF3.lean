/- Contracts on typed data (printed by wip/gen/vx.py out of wip/v/F3.v). -/
import Derived.Test.YtiimdlkeikcfiaaGreatF2
namespace Go.Proofs.YtiimdlkeikcfiaaGreat.V
open Go.RowKit M
set_option maxRecDepth 100000
set_option maxHeartbeats 1000000
def linkOk (i : Int) : Bool := inB i (-1) 9
def datOk (i : Int) : Bool := inB i 0 999
def msgOk (m : Msg) : Bool := (m.frm == -1 || inB m.frm 0 29999) && inB m.n 0 999
def listsB (o : Obj) : Bool := o.links.all linkOk && o.data.all datOk && o.queue.all msgOk && decide (o.links.length = 2) && (((o.data.length : Nat) : Int) == (if o.kind = 2 then o.pages else 0)) && decide (((o.queue.length : Nat) : Int) ≤ (if o.kind = 3 then 2 else 0))
theorem listsOk_v (o : Obj) (hb : objB o) : VC Tryz.prog 98 [.agg (objA o)] (bR (listsB o)) := by
  refine VC.go tiOk vtOk [] Tryz.func98 rfl rfl ?_
  conv => whnf
  obtain ⟨hb1, hb2, hb3⟩ := hb
  refine goV_loop tiOk vtOk [] (fun k : Nat => stV 82 [(1, .av (.one (.ptr [1] 0 0))), (2, .av (.one (bV false))), (12, .av (.one (.ro .i64 o.links))), (13, .av (.one (iV o.links.length))), (14, .av (.one (iV k)))] [(1, some (.box (objA o)))]) (fun k => k ≤ o.links.length ∧ (o.links.take k).all linkOk = true) (fun k => o.links.length - k) 0 ⟨by omega, rfl⟩ rfl ?_ fun k hj => ?_
  · conv => whnf
    repeat (refine ⟨rfl, ?_⟩; conv => whnf)
    exact True.intro
  obtain ⟨hj1, hj2⟩ := hj
  conv => whnf
  refine br (fun h => ?_) (fun h => ?_)
  · have hk : k < o.links.length := by simpa using h
    conv => whnf
    refine side_lt hk ?_
    conv => whnf
    refine ⟨_, within_v _ _ _, ?_⟩
    conv => whnf
    refine br (fun h2 => ?_) (fun h2 => ?_)
    · conv => whnf
      have e : o.links.all linkOk = false := all_no (d := 0) hk (by simpa [linkOk] using h2)
      exact ⟨congrArg _ (by simp [listsB, e]), True.intro⟩
    · conv => whnf
      refine ⟨k + 1, ⟨hk, all_more hk hj2 (by simpa [linkOk] using h2)⟩, by omega, rfl, ?_⟩
      conv => whnf
      repeat (first | (refine ⟨by with_reducible rfl, ?_⟩; conv => whnf) | (refine ⟨congrArg _ (wrap_nat k (by omega)), ?_⟩; conv => whnf))
      exact True.intro
  have e1 : o.links.all linkOk = true := all_end (by simp at h; omega) hj2
  clear h hj1 hj2
  conv => whnf
  refine goV_loop tiOk vtOk [] (fun k : Nat => stV 82 [(1, .av (.one (.ptr [1] 0 0))), (2, .av (.one (bV false))), (23, .av (.one (.ro .i64 o.data))), (24, .av (.one (iV o.data.length))), (25, .av (.one (iV k)))] [(1, some (.box (objA o)))]) (fun k => k ≤ o.data.length ∧ (o.data.take k).all datOk = true) (fun k => o.data.length - k) 0 ⟨by omega, rfl⟩ rfl ?_ fun k hj => ?_
  · conv => whnf
    repeat (refine ⟨rfl, ?_⟩; conv => whnf)
    exact True.intro
  obtain ⟨hj1, hj2⟩ := hj
  conv => whnf
  refine br (fun h => ?_) (fun h => ?_)
  · have hk : k < o.data.length := by simpa using h
    conv => whnf
    refine side_lt hk ?_
    conv => whnf
    refine ⟨_, within_v _ _ _, ?_⟩
    conv => whnf
    refine br (fun h2 => ?_) (fun h2 => ?_)
    · conv => whnf
      have e : o.data.all datOk = false := all_no (d := 0) hk (by simpa [datOk] using h2)
      exact ⟨congrArg _ (by simp [listsB, e]), True.intro⟩
    · conv => whnf
      refine ⟨k + 1, ⟨hk, all_more hk hj2 (by simpa [datOk] using h2)⟩, by omega, rfl, ?_⟩
      conv => whnf
      repeat (first | (refine ⟨by with_reducible rfl, ?_⟩; conv => whnf) | (refine ⟨congrArg _ (wrap_nat k (by omega)), ?_⟩; conv => whnf))
      exact True.intro
  have e2 : o.data.all datOk = true := all_end (by simp at h; omega) hj2
  clear h hj1 hj2
  conv => whnf
  refine goV_loop tiOk vtOk [] (fun k : Nat => stV 82 [(1, .av (.one (.ptr [1] 0 0))), (2, .av (.one (bV false))), (34, .av (.one (.ro .msg o.queue))), (35, .av (.one (iV o.queue.length))), (36, .av (.one (iV k)))] [(1, some (.box (objA o)))]) (fun k => k ≤ o.queue.length ∧ (o.queue.take k).all msgOk = true) (fun k => o.queue.length - k) 0 ⟨by omega, rfl⟩ rfl ?_ fun k hj => ?_
  · conv => whnf
    repeat (refine ⟨rfl, ?_⟩; conv => whnf)
    exact True.intro
  obtain ⟨hj1, hj2⟩ := hj
  conv => whnf
  refine br (fun h => ?_) (fun h => ?_)
  · have hk : k < o.queue.length := by simpa using h
    conv => whnf
    refine side_lt hk ?_
    conv => whnf
    repeat' (first | (refine br (fun h => ?_) (fun h => ?_) <;> conv => whnf) | (refine ⟨_, isHandle_v _, ?_⟩; conv => whnf) | (refine ⟨_, within_v _ _ _, ?_⟩; conv => whnf) | (refine no_way (l := o.queue) (p := msgOk) (d := d0 .msg) hk ?_ ?_; (focus (simp_all [msgOk]; done)); (focus (intro e; simp [listsB, e]; done))) | (refine ⟨k + 1, ⟨hk, all_more (d := d0 .msg) hk hj2 ?_⟩, ?_, rfl, ?_⟩; (focus (simp_all [msgOk]; done)); (focus omega); (conv => whnf); (repeat (first | (refine ⟨by with_reducible rfl, ?_⟩; conv => whnf) | (refine ⟨congrArg _ (wrap_nat k (by omega)), ?_⟩; conv => whnf))); exact True.intro))
  have e3 : o.queue.all msgOk = true := all_end (by simp at h; omega) hj2
  clear h hj1 hj2
  conv => whnf
  repeat' (first | exact True.intro | (refine ⟨by with_reducible rfl, ?_⟩; conv => whnf) | (refine br (fun h => ?_) (fun h => ?_) <;> conv => whnf) | (refine ⟨boolTy, ?_⟩; conv => whnf) | (refine ⟨?_, ?_⟩; (focus (simp_all [listsB]; done)); conv => whnf) | (refine ⟨?_, ?_⟩; (focus (simp_all [listsB]; omega)); conv => whnf))

end Go.Proofs.YtiimdlkeikcfiaaGreat.V
