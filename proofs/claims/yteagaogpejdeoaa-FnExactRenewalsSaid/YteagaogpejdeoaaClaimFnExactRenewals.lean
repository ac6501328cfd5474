/- FnExactRenewals: for all three numbers the program's Renewals answers what the reference's answers, in memory of its own. No condition. -/
import Derived.Test.YteagaogpejdeoaaTop
import Derived.Test.YteagaogpejdeoaaLawRenewals
namespace Go.Proofs.Yteagaogpejdeoaa
open Go.ChangeShapes Go.WideShapes Go.ChangeAt Go.RowKit Go.Deep

theorem q1FnExactRenewals (os : Os) : (World.plainHolding Try.checked.prog os ⟨#[], #[.int .i64 0, .int .i64 0, .int .i64 0], []⟩).variablesB Try.checked.prog = true := by kernel_rfl
theorem q2FnExactRenewals (os : Os) : ((World.plainHolding Try.checked.prog os ⟨#[], #[.int .i64 0, .int .i64 0, .int .i64 0], []⟩).heap.toList.drop Try.checked.prog.globals.size).take ((begin Try.checked.prog (fun _ _ => 0) default).world.heap.size - Try.checked.prog.globals.size) =
      (begin Try.checked.prog (fun _ _ => 0) default).world.heap.toList.drop Try.checked.prog.globals.size := by kernel_rfl
theorem q3FnExactRenewals (os : Os) : Input.okWideB Try.checked.prog (World.plainHolding Try.checked.prog os ⟨#[], #[.int .i64 0, .int .i64 0, .int .i64 0], []⟩) 5 ⟨#[], #[.int .i64 0, .int .i64 0, .int .i64 0], []⟩ = true := by kernel_rfl
theorem q4FnExactRenewals (os : Os) (H : Type) (enc : TypeId × Value → H) : Rows.fnExactRenewalsSpec.preB enc Try.checked.prog Try.f5 Rows.fnExactRenewalsRow.domain false (World.plainHolding Try.checked.prog os ⟨#[], #[.int .i64 0, .int .i64 0, .int .i64 0], []⟩).memory #[.int .i64 0, .int .i64 0, .int .i64 0] 8 = true := by kernel_rfl
theorem q5FnExactRenewals (os : Os) (H : Type) (enc : TypeId × Value → H) : Rows.fnExactRenewalsSpec.sizedB enc Try.checked.prog Try.f5 false (World.plainHolding Try.checked.prog os ⟨#[], #[.int .i64 0, .int .i64 0, .int .i64 0], []⟩).memory #[.int .i64 0, .int .i64 0, .int .i64 0] 8 = true := by kernel_rfl
theorem witFnExactRenewals (os : Os) (H : Type) (enc : TypeId × Value → H) : ∃ (w : World) (tape : Tape) (i : Input), w.os = os ∧ (w.forCall tape i).Shaped Try.checked.prog ∧ i.vars = [] ∧ Input.okWide Try.checked.prog (w.forCall tape i) .any w.heap.size 5 i ∧
      Rows.fnExactRenewalsSpec.pre6 enc Try.checked.prog Try.f5 Rows.fnExactRenewalsRow.domain false (w.forCall tape i).memory i.args ∧ ({} : Assume).holds Try.checked.prog (lone (Frame.enter Try.checked.prog 5 i.args .normal) [] (w.forCall tape i)) :=
    (ChangeSpec.witness6 (enc := enc) (C := Try.checked) false ⟨#[], #[.int .i64 0, .int .i64 0, .int .i64 0], []⟩ 8 (q1FnExactRenewals os) (q2FnExactRenewals os) (q3FnExactRenewals os) (q4FnExactRenewals os H enc) (q5FnExactRenewals os H enc))
theorem r1FnExactRenewals : Try.checked.prog.inits.idxOf? 5 = none := by kernel_rfl
theorem r2FnExactRenewals : ownKnob Try.checked.prog.godebug = none := Try.own0
theorem r3FnExactRenewals : Try.checked.prog.funcs[5]? = some Try.f5 := Try.func5
theorem rdFnExactRenewals0 : Try.prog.readableRec 3 = true ∧ 3 < Try.prog.types.size := ⟨by kernel_rfl, of_decide_eq_true (by kernel_rfl)⟩
theorem rdFnExactRenewals1 : Try.prog.readableRec 3 = true ∧ 3 < Try.prog.types.size := ⟨by kernel_rfl, of_decide_eq_true (by kernel_rfl)⟩
theorem rdFnExactRenewals2 : Try.prog.readableRec 3 = true ∧ 3 < Try.prog.types.size := ⟨by kernel_rfl, of_decide_eq_true (by kernel_rfl)⟩
theorem rsFnExactRenewals : (Try.f5).resultTypes = #[4] := by kernel_rfl

set_option maxRecDepth 100000 in
theorem contractFnExactRenewals (H : Type) (enc : TypeId × Value → H) (W : World) (base : Nat) (args : Array Value) (ds gs : List (DataW H)) (before : List MemPlace)
    (hval : ∀ (j : Nat) t v, (Try.f5).params[j]? = some t → args[j]? = some v → Value.okWide Try.prog W .any base t v)
    (hW : DataW.Whole enc Try.prog (Try.f5).params.toList Rows.fnExactRenewalsSpec.vars false W args.toList ds gs before) :
    Calls Try.prog 5 args W fun e W' => ∃ v, e = .returned v ∧ Rows.fnExactRenewalsSpec.post enc Try.prog Try.f5 false true false false W args v W' := by
  have hW' := hW
  obtain ⟨p, q, hA0, hV, rfl, hfz, hnd⟩ := hW
  have hA : DataW.TrodAll enc Try.prog W 0 (fun _ => true) true (Try.f5).params.toList args.toList ds p := hA0
  rw [Try.params5] at hA hval
  obtain ⟨v0, vs0, d0, ds0, p0, q0, hargs, rfl, rfl, h0, r0⟩ := trodAll_cons hA
  obtain ⟨v1, vs1, d1, ds1, p1, q1, rfl, rfl, rfl, h1, r1⟩ := trodAll_cons r0
  obtain ⟨v2, vs2, d2, ds2, p2, q2, rfl, rfl, rfl, h2, r2⟩ := trodAll_cons r1
  obtain ⟨rfl, rfl, rfl⟩ := trodAll_nil r2
  obtain rfl : args = #[v0, v1, v2] := by cases args; simp_all
  obtain ⟨a0, rfl, rfl, rfl, w0⟩ := open_int Try.underlying3 (hval 0 3 v0 rfl rfl) h0
  obtain ⟨a1, rfl, rfl, rfl, w1⟩ := open_int Try.underlying3 (hval 1 3 v1 rfl rfl) h1
  obtain ⟨a2, rfl, rfl, rfl, w2⟩ := open_int Try.underlying3 (hval 2 3 v2 rfl rfl) h2
  refine (lawFnExactRenewals_walk a0 w0 a1 w1 a2 w2 W).mono fun e W' ⟨he, hb⟩ => ?_
  subst he
  refine ⟨_, rfl, law_post Try.laidOut0 ?_ rsFnExactRenewals Try.underlying4 rfl hW' rfl hb⟩
  rw [Try.params5]
  intro t ht
  simp only [List.mem_cons, List.not_mem_nil, or_false] at ht
  rcases ht with rfl | rfl | rfl
  · exact rdFnExactRenewals0
  · exact rdFnExactRenewals1
  · exact rdFnExactRenewals2

theorem liftedFnExactRenewals (os : Os) (started : os.Started) (H : Type) (enc : TypeId × Value → H) :
    ReturnsInHanded {} Try.checked os 5 .any (Rows.fnExactRenewalsSpec.pre6 enc Try.checked.prog Try.f5 Rows.fnExactRenewalsRow.domain false) (Rows.fnExactRenewalsSpec.post enc Try.checked.prog Try.f5 false true false false) := by
  refine returnsInHanded_of_change (C := Try.checked) r2FnExactRenewals started r1FnExactRenewals r3FnExactRenewals (witFnExactRenewals os H enc) ?_
  rw [Try.progEq0]
  intro W base args ds gs before hval hW hcnd _
  exact contractFnExactRenewals H enc W base args ds gs before @hval hW

theorem lifted2FnExactRenewals (os : Os) (started : os.Started) (H : Type) (enc : TypeId × Value → H) :
    ReturnsInHanded {} Try.checked os 5 .any (Rows.fnExactRenewalsSpec.pre6 enc Try.prog Try.f5 Rows.fnExactRenewalsRow.domain false) (Rows.fnExactRenewalsSpec.post enc Try.prog Try.f5 false true false false) := by
  have h := liftedFnExactRenewals os started H enc
  rw [Try.progEq0] at h
  exact h

theorem FnExactRenewals_holds : Rows.FnExactRenewalsSaid :=
  OpenClaim.holds_of_wide 5 Try.f5 rfl rfl rfl rfl rfl rfl rfl ⟨rfl, rfl, rfl, rfl, rfl⟩ rfl rfl rfl rfl rfl (by kernel_rfl) Try.func5 (by kernel_rfl)
    (of_decide_eq_true (by kernel_rfl)) (by unfold Func.isWrapper; first | (rw [if_pos (by decide +kernel)]; kernel_rfl) | (rw [if_neg (by decide +kernel)]; exact ⟨rfl, rfl⟩))
    (fun os started H enc _ => lifted2FnExactRenewals os started H enc)
#print axioms FnExactRenewals_holds

end Go.Proofs.Yteagaogpejdeoaa
