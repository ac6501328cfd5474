/- Contracts on typed data (printed by wip/gen/vx.py out of wip/v/F1.v). -/
import Derived.Test.YtiimdlkeikcfiaaGreatVY
namespace Go.Proofs.YtiimdlkeikcfiaaGreat.V
open Go.RowKit M
set_option maxRecDepth 100000
set_option maxHeartbeats 1000000
theorem within_v (n lo hi : Int) : VC Tryz.prog 44 [iA n, iA lo, iA hi] (bR (inB n lo hi)) := by
  refine VC.go tiOk vtOk [] Tryz.func44 rfl rfl ?_
  conv => whnf
  refine br (fun h => ?_) (fun h => ?_)
  · conv => whnf
    exact ⟨congrArg _ (by simp [inB, h]), True.intro⟩
  · conv => whnf
    exact ⟨congrArg _ (by simp [inB, h]), True.intro⟩
theorem isAmount_v (n : Int) : VC Tryz.prog 104 [iA n] (bR (inB n 0 1000000)) := by
  refine VC.go tiOk vtOk [] Tryz.func104 rfl rfl ?_
  conv => whnf
  refine ⟨_, within_v _ _ _, ?_⟩
  conv => whnf
  exact ⟨rfl, True.intro⟩
def amtOk (a : Amt) : Bool := inB a.pages 0 1000000 && inB a.rent 0 1000000 && inB a.cpu 0 1000000
theorem AmtOk_v (a : Amt) : VC Tryz.prog 69 [amtA a] (bR (amtOk a)) := by
  refine VC.go tiOk vtOk [] Tryz.func69 rfl rfl ?_
  conv => whnf
  refine ⟨_, isAmount_v a.pages, ?_⟩
  conv => whnf
  refine br (fun h1 => ?_) (fun h1 => ?_)
  · conv => whnf
    refine ⟨_, isAmount_v a.rent, ?_⟩
    conv => whnf
    refine br (fun h2 => ?_) (fun h2 => ?_)
    · conv => whnf
      refine ⟨_, isAmount_v a.cpu, ?_⟩
      conv => whnf
      exact ⟨congrArg _ (by simp [amtOk, h1, h2]), True.intro⟩
    · conv => whnf
      exact ⟨congrArg _ (by simp [amtOk, h2]), True.intro⟩
  · conv => whnf
    exact ⟨congrArg _ (by simp [amtOk, h1]), True.intro⟩
def sumA (a b : Amt) : Amt := ⟨a.pages + b.pages, a.rent + b.rent, a.cpu + b.cpu⟩
def amtB (a : Amt) : Prop := (-1000000000000 ≤ a.pages ∧ a.pages ≤ 1000000000000) ∧ (-1000000000000 ≤ a.rent ∧ a.rent ≤ 1000000000000) ∧ -1000000000000 ≤ a.cpu ∧ a.cpu ≤ 1000000000000
theorem sumOf_v (a b : Amt) (ha : amtB a) (hb : amtB b) : VC Tryz.prog 67 [amtA a, amtA b] (.av (.agg (amtC (sumA a b)))) := by
  obtain ⟨a1, a2, a3⟩ := ha
  obtain ⟨b1, b2, b3⟩ := hb
  refine VC.go tiOk vtOk [] Tryz.func67 rfl rfl ?_
  conv => whnf
  refine ⟨congrArg _ (wrap_in (by omega)), ?_⟩
  conv => whnf
  refine ⟨congrArg _ (wrap_in (by omega)), ?_⟩
  conv => whnf
  refine ⟨congrArg _ (wrap_in (by omega)), ?_⟩
  conv => whnf
  exact True.intro
theorem amtOk_b {a : Amt} (h : amtOk a = true) : amtB a := by
  simp only [amtOk, Bool.and_eq_true, inB_iff] at h
  obtain ⟨⟨h1, h2⟩, h3⟩ := h
  exact ⟨by omega, by omega, by omega⟩
def addA (a b : Amt) : Amt × Bool := if amtOk a && amtOk b && amtOk (sumA a b) then (sumA a b, true) else (a, false)
theorem AmtAdd_v (a b : Amt) : VC Tryz.prog 41 [amtA a, amtA b] (.tup [amtA (addA a b).1, .one (bV (addA a b).2)]) := by
  refine VC.go tiOk vtOk [] Tryz.func41 rfl rfl ?_
  conv => whnf
  refine ⟨_, AmtOk_v a, ?_⟩
  conv => whnf
  refine br (fun h1 => ?_) (fun h1 => ?_)
  · have e : addA a b = (a, false) := by simp at h1; simp [addA, h1]
    rw [e]
    conv => whnf
    repeat (refine ⟨rfl, ?_⟩; conv => whnf)
    exact True.intro
  · conv => whnf
    refine ⟨_, AmtOk_v b, ?_⟩
    conv => whnf
    refine br (fun h2 => ?_) (fun h2 => ?_)
    · have e : addA a b = (a, false) := by simp at h2; simp [addA, h2]
      rw [e]
      conv => whnf
      repeat (refine ⟨rfl, ?_⟩; conv => whnf)
      exact True.intro
    · conv => whnf
      simp at h1 h2
      refine ⟨_, sumOf_v a b (amtOk_b h1) (amtOk_b h2), ?_⟩
      conv => whnf
      refine ⟨_, AmtOk_v (sumA a b), ?_⟩
      conv => whnf
      refine br (fun h3 => ?_) (fun h3 => ?_)
      · have e : addA a b = (a, false) := by simp at h3; simp [addA, h3]
        rw [e]
        conv => whnf
        repeat (refine ⟨rfl, ?_⟩; conv => whnf)
        exact True.intro
      · have e : addA a b = (sumA a b, true) := by simp at h3; simp [addA, h1, h2, h3]
        rw [e]
        conv => whnf
        refine ⟨_, sumOf_v a b (amtOk_b h1) (amtOk_b h2), ?_⟩
        conv => whnf
        repeat (refine ⟨rfl, ?_⟩; conv => whnf)
        exact True.intro
def fitsA (a b : Amt) : Bool := amtOk a && amtOk b && decide (a.pages ≤ b.pages) && decide (a.rent ≤ b.rent) && decide (a.cpu ≤ b.cpu)
theorem AmtFits_v (a b : Amt) : VC Tryz.prog 132 [amtA a, amtA b] (bR (fitsA a b)) := by
  refine VC.go tiOk vtOk [] Tryz.func132 rfl rfl ?_
  conv => whnf
  repeat' (first | exact True.intro | (refine ⟨by with_reducible rfl, ?_⟩; conv => whnf) | (refine br (fun h => ?_) (fun h => ?_) <;> conv => whnf) | (refine ⟨_, AmtOk_v _, ?_⟩; conv => whnf) | (refine ⟨?_, ?_⟩; (focus (simp_all [fitsA]; done)); conv => whnf) | (refine ⟨?_, ?_⟩; (focus (simp_all [fitsA]; omega)); conv => whnf))
def oneA (w n : Int) : Amt := if w = 0 then ⟨n, 0, 0⟩ else if w = 1 then ⟨0, n, 0⟩ else if w = 2 then ⟨0, 0, n⟩ else ⟨0, 0, 0⟩
theorem AmtOne_v (a b : Int) : VC Tryz.prog 76 [iA a, iA b] (.av (amtA (oneA a b))) := by
  refine VC.go tiOk vtOk [] Tryz.func76 rfl rfl ?_
  conv => whnf
  refine br (fun h1 => ?_) (fun h1 => ?_)
  · have e : oneA a b = ⟨b, 0, 0⟩ := by simp at h1; simp [oneA, h1]
    rw [e]
    conv => whnf
    repeat (refine ⟨rfl, ?_⟩; conv => whnf)
    exact True.intro
  · conv => whnf
    refine br (fun h2 => ?_) (fun h2 => ?_)
    · have e : oneA a b = ⟨0, b, 0⟩ := by simp at h2; simp [oneA, h2]
      rw [e]
      conv => whnf
      repeat (refine ⟨rfl, ?_⟩; conv => whnf)
      exact True.intro
    · conv => whnf
      refine br (fun h3 => ?_) (fun h3 => ?_)
      · have e : oneA a b = ⟨0, 0, b⟩ := by simp at h3; simp [oneA, h3]
        rw [e]
        conv => whnf
        repeat (refine ⟨rfl, ?_⟩; conv => whnf)
        exact True.intro
      · have e : oneA a b = ⟨0, 0, 0⟩ := by simp at h1 h2 h3; simp [oneA, h1, h2, h3]
        rw [e]
        conv => whnf
        repeat (refine ⟨rfl, ?_⟩; conv => whnf)
        exact True.intro
theorem AmtPart_v (a : Amt) (w : Int) : VC Tryz.prog 130 [amtA a, iA w] (iR (if w = 0 then a.pages else if w = 1 then a.rent else if w = 2 then a.cpu else 0)) := by
  refine VC.go tiOk vtOk [] Tryz.func130 rfl rfl ?_
  conv => whnf
  repeat' (first | exact True.intro | (refine ⟨by with_reducible rfl, ?_⟩; conv => whnf) | (refine br (fun h => ?_) (fun h => ?_) <;> conv => whnf) | (refine ⟨?_, ?_⟩; (focus (simp_all []; done)); conv => whnf) | (refine ⟨?_, ?_⟩; (focus (simp_all []; omega)); conv => whnf))
def subA (a b : Amt) : Amt × Bool := if fitsA b a then (⟨a.pages - b.pages, a.rent - b.rent, a.cpu - b.cpu⟩, true) else (a, false)
theorem AmtSub_v (a b : Amt) : VC Tryz.prog 115 [amtA a, amtA b] (.tup [amtA (subA a b).1, .one (bV (subA a b).2)]) := by
  refine VC.go tiOk vtOk [] Tryz.func115 rfl rfl ?_
  conv => whnf
  refine ⟨_, AmtFits_v b a, ?_⟩
  conv => whnf
  refine br (fun h1 => ?_) (fun h1 => ?_)
  · have e : subA a b = (a, false) := by simp at h1; simp [subA, h1]
    rw [e]
    conv => whnf
    repeat (refine ⟨rfl, ?_⟩; conv => whnf)
    exact True.intro
  · simp at h1
    have e : subA a b = (⟨a.pages - b.pages, a.rent - b.rent, a.cpu - b.cpu⟩, true) := by simp [subA, h1]
    simp only [fitsA, Bool.and_eq_true] at h1
    obtain ⟨⟨⟨⟨h1, h2⟩, h3⟩, h4⟩, h5⟩ := h1
    obtain ⟨b1, b2, b3⟩ := amtOk_b h1
    obtain ⟨a1, a2, a3⟩ := amtOk_b h2
    rw [e]
    conv => whnf
    repeat' (first | exact True.intro | (refine ⟨by with_reducible rfl, ?_⟩; conv => whnf) | (refine br (fun h => ?_) (fun h => ?_) <;> conv => whnf) | (refine ⟨?_, ?_⟩; (focus (exact congrArg _ (wrap_in (by omega)))); conv => whnf) | (refine ⟨?_, ?_⟩; (focus (simp_all []; done)); conv => whnf) | (refine ⟨?_, ?_⟩; (focus (simp_all []; omega)); conv => whnf))
theorem isHandle_v (n : Int) : VC Tryz.prog 99 [iA n] (bR (inB n 0 29999)) := by
  refine VC.go tiOk vtOk [] Tryz.func99 rfl rfl ?_
  conv => whnf
  repeat' (first | exact True.intro | (refine ⟨by with_reducible rfl, ?_⟩; conv => whnf) | (refine br (fun h => ?_) (fun h => ?_) <;> conv => whnf) | (refine ⟨_, within_v _ _ _, ?_⟩; conv => whnf) | (refine ⟨?_, ?_⟩; (focus (simp_all []; done)); conv => whnf) | (refine ⟨?_, ?_⟩; (focus (simp_all []; omega)); conv => whnf))
theorem isPlace_v (n : Int) : VC Tryz.prog 97 [iA n] (bR (inB n 0 4)) := by
  refine VC.go tiOk vtOk [] Tryz.func97 rfl rfl ?_
  conv => whnf
  repeat' (first | exact True.intro | (refine ⟨by with_reducible rfl, ?_⟩; conv => whnf) | (refine br (fun h => ?_) (fun h => ?_) <;> conv => whnf) | (refine ⟨_, within_v _ _ _, ?_⟩; conv => whnf) | (refine ⟨?_, ?_⟩; (focus (simp_all []; done)); conv => whnf) | (refine ⟨?_, ?_⟩; (focus (simp_all []; omega)); conv => whnf))
theorem isTime_v (n : Int) : VC Tryz.prog 65 [iA n] (bR (inB n 0 1000000)) := by
  refine VC.go tiOk vtOk [] Tryz.func65 rfl rfl ?_
  conv => whnf
  repeat' (first | exact True.intro | (refine ⟨by with_reducible rfl, ?_⟩; conv => whnf) | (refine br (fun h => ?_) (fun h => ?_) <;> conv => whnf) | (refine ⟨_, within_v _ _ _, ?_⟩; conv => whnf) | (refine ⟨?_, ?_⟩; (focus (simp_all []; done)); conv => whnf) | (refine ⟨?_, ?_⟩; (focus (simp_all []; omega)); conv => whnf))
theorem isSlot_v (n : Int) : VC Tryz.prog 87 [iA n] (bR (inB n 0 9)) := by
  refine VC.go tiOk vtOk [] Tryz.func87 rfl rfl ?_
  conv => whnf
  repeat' (first | exact True.intro | (refine ⟨by with_reducible rfl, ?_⟩; conv => whnf) | (refine br (fun h => ?_) (fun h => ?_) <;> conv => whnf) | (refine ⟨_, within_v _ _ _, ?_⟩; conv => whnf) | (refine ⟨?_, ?_⟩; (focus (simp_all []; done)); conv => whnf) | (refine ⟨?_, ?_⟩; (focus (simp_all []; omega)); conv => whnf))
theorem isPart_v (n : Int) : VC Tryz.prog 71 [iA n] (bR (inB n 0 2)) := by
  refine VC.go tiOk vtOk [] Tryz.func71 rfl rfl ?_
  conv => whnf
  repeat' (first | exact True.intro | (refine ⟨by with_reducible rfl, ?_⟩; conv => whnf) | (refine br (fun h => ?_) (fun h => ?_) <;> conv => whnf) | (refine ⟨_, within_v _ _ _, ?_⟩; conv => whnf) | (refine ⟨?_, ?_⟩; (focus (simp_all []; done)); conv => whnf) | (refine ⟨?_, ?_⟩; (focus (simp_all []; omega)); conv => whnf))

end Go.Proofs.YtiimdlkeikcfiaaGreat.V
