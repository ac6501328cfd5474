/- FnExactLiveCount: for every world and every number the program's LiveCount answers what the reference's answers, and the argument stays. No condition. -/
import Derived.Test.YtpiaahkfnefplaaTop
import Derived.Test.YtpiaahkfnefplaaPartOpen
import Derived.Test.YtpiaahkfnefplaaLawLiveCount
namespace Go.Proofs.Ytpiaahkfnefplaa
open Go.ChangeShapes Go.WideShapes Go.ChangeAt Go.RowKit Go.Deep

theorem q1FnExactLiveCount (os : Os) : (World.plainHolding Try.checked.prog os ⟨#[], #[.agg #[.int .i64 0, .slice none 0 0], .int .i64 0], []⟩).variablesB Try.checked.prog = true := by kernel_rfl
theorem q2FnExactLiveCount (os : Os) : ((World.plainHolding Try.checked.prog os ⟨#[], #[.agg #[.int .i64 0, .slice none 0 0], .int .i64 0], []⟩).heap.toList.drop Try.checked.prog.globals.size).take ((begin Try.checked.prog (fun _ _ => 0) default).world.heap.size - Try.checked.prog.globals.size) =
      (begin Try.checked.prog (fun _ _ => 0) default).world.heap.toList.drop Try.checked.prog.globals.size := by kernel_rfl
theorem q3FnExactLiveCount (os : Os) : Input.okWideB Try.checked.prog (World.plainHolding Try.checked.prog os ⟨#[], #[.agg #[.int .i64 0, .slice none 0 0], .int .i64 0], []⟩) 3 ⟨#[], #[.agg #[.int .i64 0, .slice none 0 0], .int .i64 0], []⟩ = true := by kernel_rfl
theorem q4FnExactLiveCount (os : Os) (H : Type) (enc : TypeId × Value → H) : Rows.fnExactLiveCountSpec.preB enc Try.checked.prog Try.f3 Rows.fnExactLiveCountRow.domain false (World.plainHolding Try.checked.prog os ⟨#[], #[.agg #[.int .i64 0, .slice none 0 0], .int .i64 0], []⟩).memory #[.agg #[.int .i64 0, .slice none 0 0], .int .i64 0] 8 = true := by kernel_rfl
theorem q5FnExactLiveCount (os : Os) (H : Type) (enc : TypeId × Value → H) : Rows.fnExactLiveCountSpec.sizedB enc Try.checked.prog Try.f3 false (World.plainHolding Try.checked.prog os ⟨#[], #[.agg #[.int .i64 0, .slice none 0 0], .int .i64 0], []⟩).memory #[.agg #[.int .i64 0, .slice none 0 0], .int .i64 0] 8 = true := by kernel_rfl
theorem witFnExactLiveCount (os : Os) (H : Type) (enc : TypeId × Value → H) : ∃ (w : World) (tape : Tape) (i : Input), w.os = os ∧ (w.forCall tape i).Shaped Try.checked.prog ∧ i.vars = [] ∧ Input.okWide Try.checked.prog (w.forCall tape i) .any w.heap.size 3 i ∧
      Rows.fnExactLiveCountSpec.pre6 enc Try.checked.prog Try.f3 Rows.fnExactLiveCountRow.domain false (w.forCall tape i).memory i.args ∧ ({} : Assume).holds Try.checked.prog (lone (Frame.enter Try.checked.prog 3 i.args .normal) [] (w.forCall tape i)) :=
    (ChangeSpec.witness6 (enc := enc) (C := Try.checked) false ⟨#[], #[.agg #[.int .i64 0, .slice none 0 0], .int .i64 0], []⟩ 8 (q1FnExactLiveCount os) (q2FnExactLiveCount os) (q3FnExactLiveCount os) (q4FnExactLiveCount os H enc) (q5FnExactLiveCount os H enc))
theorem r1FnExactLiveCount : Try.checked.prog.inits.idxOf? 3 = none := by kernel_rfl
theorem r2FnExactLiveCount : ownKnob Try.checked.prog.godebug = none := Try.own0
theorem r3FnExactLiveCount : Try.checked.prog.funcs[3]? = some Try.f3 := Try.func3
theorem rdFnExactLiveCount0 : Try.prog.readableRec 24 = true ∧ 24 < Try.prog.types.size := ⟨by kernel_rfl, of_decide_eq_true (by kernel_rfl)⟩
theorem rdFnExactLiveCount1 : Try.prog.readableRec 3 = true ∧ 3 < Try.prog.types.size := ⟨by kernel_rfl, of_decide_eq_true (by kernel_rfl)⟩
theorem rsFnExactLiveCount : (Try.f3).resultTypes = #[4] := by kernel_rfl

set_option maxRecDepth 100000 in
theorem contractFnExactLiveCount (H : Type) (enc : TypeId × Value → H) (W : World) (base : Nat) (args : Array Value) (ds gs : List (DataW H)) (before : List MemPlace)
    (hval : ∀ (j : Nat) t v, (Try.f3).params[j]? = some t → args[j]? = some v → Value.okWide Try.prog W .any base t v)
    (hW : DataW.Whole enc Try.prog (Try.f3).params.toList Rows.fnExactLiveCountSpec.vars false W args.toList ds gs before) :
    Calls Try.prog 3 args W fun e W' => ∃ v, e = .returned v ∧ Rows.fnExactLiveCountSpec.post enc Try.prog Try.f3 false true false false W args v W' := by
  have hW' := hW
  obtain ⟨p, q, hA0, hV, rfl, hfz, hnd⟩ := hW
  have hA : DataW.TrodAll enc Try.prog W 0 (fun _ => true) true (Try.f3).params.toList args.toList ds p := hA0
  rw [Try.params3] at hA hval
  obtain ⟨v0, vs0, d0, ds0, p0, q0, hargs, rfl, rfl, h0, r0⟩ := trodAll_cons hA
  obtain ⟨v1, vs1, d1, ds1, p1, q1, rfl, rfl, rfl, h1, r1⟩ := trodAll_cons r0
  obtain ⟨rfl, rfl, rfl⟩ := trodAll_nil r1
  obtain rfl : args = #[v0, v1] := by cases args; simp_all
  obtain ⟨nw0, a0, c0, l0, rfl, hm0, hrd0, hsh0⟩ := openWorld (hval 0 24 v0 rfl rfl) h0
  obtain ⟨a1, rfl, rfl, rfl, w1⟩ := open_int Try.underlying3 (hval 1 3 v1 rfl rfl) h1
  refine (lawFnExactLiveCount_walk nw0 a0 c0 l0 hm0 hsh0 a1 w1 W hrd0).mono fun e W' ⟨he, hb⟩ => ?_
  subst he
  refine ⟨_, rfl, law_post Try.laidOut0 ?_ rsFnExactLiveCount Try.underlying4 rfl hW' rfl hb⟩
  rw [Try.params3]
  intro t ht
  simp only [List.mem_cons, List.not_mem_nil, or_false] at ht
  rcases ht with rfl | rfl
  · exact rdFnExactLiveCount0
  · exact rdFnExactLiveCount1

theorem liftedFnExactLiveCount (os : Os) (started : os.Started) (H : Type) (enc : TypeId × Value → H) :
    ReturnsInHanded {} Try.checked os 3 .any (Rows.fnExactLiveCountSpec.pre6 enc Try.checked.prog Try.f3 Rows.fnExactLiveCountRow.domain false) (Rows.fnExactLiveCountSpec.post enc Try.checked.prog Try.f3 false true false false) := by
  refine returnsInHanded_of_change (C := Try.checked) r2FnExactLiveCount started r1FnExactLiveCount r3FnExactLiveCount (witFnExactLiveCount os H enc) ?_
  rw [Try.progEq0]
  intro W base args ds gs before hval hW hcnd _
  exact contractFnExactLiveCount H enc W base args ds gs before @hval hW

theorem lifted2FnExactLiveCount (os : Os) (started : os.Started) (H : Type) (enc : TypeId × Value → H) :
    ReturnsInHanded {} Try.checked os 3 .any (Rows.fnExactLiveCountSpec.pre6 enc Try.prog Try.f3 Rows.fnExactLiveCountRow.domain false) (Rows.fnExactLiveCountSpec.post enc Try.prog Try.f3 false true false false) := by
  have h := liftedFnExactLiveCount os started H enc
  rw [Try.progEq0] at h
  exact h

theorem FnExactLiveCount_holds : Rows.FnExactLiveCountSaid :=
  OpenClaim.holds_of_wide 3 Try.f3 rfl rfl rfl rfl rfl rfl rfl ⟨rfl, rfl, rfl, rfl, rfl⟩ rfl rfl rfl rfl rfl (by kernel_rfl) Try.func3 (by kernel_rfl)
    (of_decide_eq_true (by kernel_rfl)) (by unfold Func.isWrapper; first | (rw [if_pos (by decide +kernel)]; kernel_rfl) | (rw [if_neg (by decide +kernel)]; exact ⟨rfl, rfl⟩))
    (fun os started H enc _ => lifted2FnExactLiveCount os started H enc)
#print axioms FnExactLiveCount_holds

end Go.Proofs.Ytpiaahkfnefplaa
