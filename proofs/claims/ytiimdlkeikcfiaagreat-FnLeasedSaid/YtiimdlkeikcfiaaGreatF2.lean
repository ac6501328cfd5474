/- Contracts on typed data (printed by wip/gen/vx.py out of wip/v/F2.v). -/
import Derived.Test.YtiimdlkeikcfiaaGreatF1
namespace Go.Proofs.YtiimdlkeikcfiaaGreat.V
open Go.RowKit M
set_option maxRecDepth 100000
set_option maxHeartbeats 1000000
theorem boolTy : Tryz.prog.underlying 4 = some .bool := by kernel_rfl
theorem amt_eq9 (w : Go.World) (a b c a' b' c' : Int) : (Op.equalIn 9999 53 (.agg #[.int .i64 a, .int .i64 b, .int .i64 c]) (.agg #[.int .i64 a', .int .i64 b', .int .i64 c'])).run Tryz.prog w = .ok (a == a' && (b == b' && c == c')) w := by
  have u3 := Tryz.underlying3
  have a3 := Tryz.isAgg3
  have hS : Tryz.prog.underlying 53 = some (.struct (Tryz.prog.fieldsOf 53)) := by kernel_rfl
  have hp : Tryz.prog.stoodInHeld 53 = false := by kernel_rfl
  rw [show (9999 : Nat) = 9998 + 1 from rfl, run_equalIn_agg w 9998 53 _ _ hS hp]
  simp only [Program.fieldsOf, Tryz.underlying53]
  go_simp
  by_cases h1 : a = a' <;> by_cases h2 : b = b' <;> by_cases h3 : c = c' <;> simp [h1, h2, h3]
theorem res_eq (l l' : Bool) (p p' a a' b b' c c' : Int) : EqV Tryz.prog 109 [.bool l, .int .i64 p, .int .i64 a, .int .i64 b, .int .i64 c] [.bool l', .int .i64 p', .int .i64 a', .int .i64 b', .int .i64 c'] (l == l' && (p == p' && (a == a' && (b == b' && c == c')))) := by
  refine ⟨by kernel_rfl, fun w => ?_⟩
  have u3 := Tryz.underlying3
  have a3 := Tryz.isAgg3
  have u4 := Tryz.underlying4
  have a4 := Tryz.isAgg4
  have a5 := Tryz.isAgg53
  have z5 := Tryz.sizeOf53
  have e5 := amt_eq9 w a b c a' b' c'
  have hS : Tryz.prog.underlying 109 = some (.struct (Tryz.prog.fieldsOf 109)) := by kernel_rfl
  have hp : Tryz.prog.stoodInHeld 109 = false := by kernel_rfl
  show (Op.equalIn 10000 _ _ _).run Tryz.prog w = _
  rw [show (10000 : Nat) = 9999 + 1 from rfl, run_equalIn_agg w 9999 109 _ _ hS hp]
  simp only [Program.fieldsOf, Tryz.underlying109]
  go_simp
  by_cases h1 : l = l' <;> by_cases h2 : p = p' <;> by_cases h3 : a = a' <;> by_cases h4 : b = b' <;> by_cases h5 : c = c' <;> simp [h1, h2, h3, h4, h5]
theorem eq_no {α : Type} [BEq α] [LawfulBEq α] {l m : List α} {k : Nat} {d : α} (hl : k < l.length) (hm : l.length = m.length) (h : l.getD k d ≠ m.getD k d) : (l == m) = false := by
  apply Bool.eq_false_iff.2
  intro e
  rw [eq_of_beq e] at h
  exact h rfl
theorem eq_more {α : Type} {l m : List α} {k : Nat} {d : α} (hl : k < l.length) (hm : l.length = m.length) (ht : l.take k = m.take k) (h : l.getD k d = m.getD k d) : l.take (k + 1) = m.take (k + 1) := by
  rw [take_snoc (d := d) hl, take_snoc (d := d) (hm ▸ hl), ht, h]
theorem eqInts_v (l m : List Int) (hl : l.length ≤ 1000000000) : VC Tryz.prog 128 [.one (.ro .i64 l), .one (.ro .i64 m)] (bR (l == m)) := by
  refine VC.go tiOk vtOk [] Tryz.func128 rfl rfl ?_
  conv => whnf
  refine br (fun h => ?_) (fun h => ?_)
  · conv => whnf
    have e : (l == m) = false := by
      apply Bool.eq_false_iff.2
      intro e
      rw [eq_of_beq e] at h
      simp at h
    exact ⟨congrArg _ e.symm, True.intro⟩
  · have hm : l.length = m.length := by simp at h; omega
    conv => whnf
    refine goV_loop tiOk vtOk [] (fun k : Nat => stV 26 [(0, .av (.one (.ro .i64 l))), (1, .av (.one (.ro .i64 m))), (11, .av (.one (.ro .i64 l))), (12, .av (.one (iV l.length))), (13, .av (.one (iV k)))] []) (fun k => k ≤ l.length ∧ l.take k = m.take k) (fun k => l.length - k) 0 ⟨by omega, rfl⟩ rfl ?_ fun k hj => ?_
    · conv => whnf
      repeat (refine ⟨rfl, ?_⟩; conv => whnf)
      exact True.intro
    obtain ⟨hj1, hj2⟩ := hj
    conv => whnf
    refine br (fun h => ?_) (fun h => ?_)
    · have hk : k < l.length := by simpa using h
      conv => whnf
      refine side_lt hk ?_
      conv => whnf
      refine side_lt (hm ▸ hk) ?_
      conv => whnf
      refine br (fun h2 => ?_) (fun h2 => ?_)
      · conv => whnf
        exact ⟨congrArg _ (eq_no hk hm (by simpa using h2)).symm, True.intro⟩
      · conv => whnf
        refine ⟨k + 1, ⟨hk, eq_more hk hm hj2 (by simpa using h2)⟩, by omega, rfl, ?_⟩
        conv => whnf
        repeat' (first | exact True.intro | (refine ⟨by with_reducible rfl, ?_⟩; conv => whnf) | (refine br (fun h => ?_) (fun h => ?_) <;> conv => whnf) | (refine ⟨boolTy, ?_⟩; conv => whnf) | (refine ⟨?_, ?_⟩; (focus (exact congrArg _ (wrap_nat k (by omega)))); conv => whnf) | (refine ⟨?_, ?_⟩; (focus (simp_all []; done)); conv => whnf) | (refine ⟨?_, ?_⟩; (focus (simp_all []; omega)); conv => whnf))
    · conv => whnf
      have e : l = m := by
        have h1 := List.take_of_length_le (l := l) (i := k) (by simp at h; omega)
        have h2 := List.take_of_length_le (l := m) (i := k) (by simp at h; omega)
        rw [← h1, ← h2, hj2]
      exact ⟨congrArg _ (by simp [e]), True.intro⟩
theorem msg_eq (a b a' b' : Int) : EqV Tryz.prog 142 [.int .i64 a, .int .i64 b] [.int .i64 a', .int .i64 b'] (a == a' && b == b') := by
  refine ⟨by kernel_rfl, fun w => ?_⟩
  have u3 := Tryz.underlying3
  have a3 := Tryz.isAgg3
  have hS : Tryz.prog.underlying 142 = some (.struct (Tryz.prog.fieldsOf 142)) := by kernel_rfl
  have hp : Tryz.prog.stoodInHeld 142 = false := by kernel_rfl
  show (Op.equalIn 10000 _ _ _).run Tryz.prog w = _
  rw [show (10000 : Nat) = 9999 + 1 from rfl, run_equalIn_agg w 9999 142 _ _ hS hp]
  simp only [Program.fieldsOf, Tryz.underlying142]
  go_simp
  by_cases h1 : a = a' <;> by_cases h2 : b = b' <;> simp [h1, h2]
theorem eqMsgs_v (l m : List Msg) (hl : l.length ≤ 1000000000) : VC Tryz.prog 129 [.one (.ro .msg l), .one (.ro .msg m)] (bR (decide (l = m))) := by
  refine VC.go tiOk vtOk [] Tryz.func129 rfl rfl ?_
  conv => whnf
  refine br (fun h => ?_) (fun h => ?_)
  · conv => whnf
    have e : l ≠ m := by
      rintro rfl
      simp at h
    exact ⟨congrArg _ (by simp [e]), True.intro⟩
  · have hm : l.length = m.length := by simp at h; omega
    conv => whnf
    refine goV_loop tiOk vtOk [] (fun k : Nat => stV 26 [(0, .av (.one (.ro .msg l))), (1, .av (.one (.ro .msg m))), (11, .av (.one (.ro .msg l))), (12, .av (.one (iV l.length))), (13, .av (.one (iV k)))] []) (fun k => k ≤ l.length ∧ l.take k = m.take k) (fun k => l.length - k) 0 ⟨by omega, rfl⟩ rfl ?_ fun k hj => ?_
    · conv => whnf
      repeat (refine ⟨rfl, ?_⟩; conv => whnf)
      exact True.intro
    obtain ⟨hj1, hj2⟩ := hj
    conv => whnf
    refine br (fun h => ?_) (fun h => ?_)
    · have hk : k < l.length := by simpa using h
      conv => whnf
      refine side_lt hk ?_
      conv => whnf
      refine side_lt (hm ▸ hk) ?_
      conv => whnf
      refine ⟨_, msg_eq _ _ _ _, ?_⟩
      conv => whnf
      refine br (fun h2 => ?_) (fun h2 => ?_)
      · conv => whnf
        have e : l ≠ m := by
          rintro rfl
          simp at h2
        exact ⟨congrArg _ (by simp [e]), True.intro⟩
      · have e : l.getD k (d0 .msg) = m.getD k (d0 .msg) := by
          generalize l.getD k (d0 .msg) = a at h2
          generalize m.getD k (d0 .msg) = b at h2
          cases a; cases b
          simp at h2
          simp [h2]
        conv => whnf
        refine ⟨k + 1, ⟨hk, eq_more hk hm hj2 e⟩, by omega, rfl, ?_⟩
        conv => whnf
        repeat' (first | exact True.intro | (refine ⟨by with_reducible rfl, ?_⟩; conv => whnf) | (refine br (fun h => ?_) (fun h => ?_) <;> conv => whnf) | (refine ⟨boolTy, ?_⟩; conv => whnf) | (refine ⟨?_, ?_⟩; (focus (exact congrArg _ (wrap_nat k (by omega)))); conv => whnf) | (refine ⟨?_, ?_⟩; (focus (simp_all []; done)); conv => whnf) | (refine ⟨?_, ?_⟩; (focus (simp_all []; omega)); conv => whnf))
    · conv => whnf
      have e : l = m := by
        have h1 := List.take_of_length_le (l := l) (i := k) (by simp at h; omega)
        have h2 := List.take_of_length_le (l := m) (i := k) (by simp at h; omega)
        rw [← h1, ← h2, hj2]
      exact ⟨congrArg _ (by simp [e]), True.intro⟩
def objB (o : Obj) : Prop := o.links.length ≤ 1000000000 ∧ o.data.length ≤ 1000000000 ∧ o.queue.length ≤ 1000000000
def sameO (a b : Obj) : Bool := a.gen == b.gen && a.kind == b.kind && a.inn == b.inn && a.res == b.res && a.til == b.til && a.pages == b.pages && a.wait == b.wait && a.got == b.got && a.ran == b.ran && a.mark == b.mark && a.links == b.links && a.data == b.data && decide (a.queue = b.queue)
theorem sameObj_v (a b : Obj) (hb : objB a) : VC Tryz.prog 96 [.agg (objA a), .agg (objA b)] (bR (sameO a b)) := by
  refine VC.go tiOk vtOk [] Tryz.func96 rfl rfl ?_
  conv => whnf
  repeat' (first | exact True.intro | (refine ⟨by with_reducible rfl, ?_⟩; conv => whnf) | (refine br (fun h => ?_) (fun h => ?_) <;> conv => whnf) | (refine ⟨_, eqInts_v _ _ hb.1, ?_⟩; conv => whnf) | (refine ⟨_, eqInts_v _ _ hb.2.1, ?_⟩; conv => whnf) | (refine ⟨_, eqMsgs_v _ _ hb.2.2, ?_⟩; conv => whnf) | (refine ⟨boolTy, ?_⟩; conv => whnf) | (refine ⟨?_, ?_⟩; (focus (simp_all [sameO]; done)); conv => whnf) | (refine ⟨?_, ?_⟩; (focus (simp_all [sameO]; omega)); conv => whnf))

end Go.Proofs.YtiimdlkeikcfiaaGreat.V
