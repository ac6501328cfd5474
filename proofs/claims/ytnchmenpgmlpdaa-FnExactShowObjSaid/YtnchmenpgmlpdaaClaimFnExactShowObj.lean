/- FnExactShowObj: for every thing the program's ShowObj answers what the reference's answers, and the argument stays. No condition. -/
import Derived.Test.YtnchmenpgmlpdaaTop
import Derived.Test.YtnchmenpgmlpdaaLawShowObj
namespace Go.Proofs.Ytnchmenpgmlpdaa
open Go.ChangeShapes Go.WideShapes Go.ChangeAt Go.RowKit Go.Deep

theorem q1FnExactShowObj (os : Os) : (World.plainHolding Try.checked.prog os ⟨#[], #[.agg #[.int .i64 0, .int .i64 0, .int .i64 0, .int .i64 0, .int .i64 0, .int .i64 0, .int .i64 0, .int .i64 0, .int .i64 0, .bool false, .slice none 0 0, .slice none 0 0, .slice none 0 0]], []⟩).variablesB Try.checked.prog = true := by kernel_rfl
theorem q2FnExactShowObj (os : Os) : ((World.plainHolding Try.checked.prog os ⟨#[], #[.agg #[.int .i64 0, .int .i64 0, .int .i64 0, .int .i64 0, .int .i64 0, .int .i64 0, .int .i64 0, .int .i64 0, .int .i64 0, .bool false, .slice none 0 0, .slice none 0 0, .slice none 0 0]], []⟩).heap.toList.drop Try.checked.prog.globals.size).take ((begin Try.checked.prog (fun _ _ => 0) default).world.heap.size - Try.checked.prog.globals.size) =
      (begin Try.checked.prog (fun _ _ => 0) default).world.heap.toList.drop Try.checked.prog.globals.size := by kernel_rfl
theorem q3FnExactShowObj (os : Os) : Input.okWideB Try.checked.prog (World.plainHolding Try.checked.prog os ⟨#[], #[.agg #[.int .i64 0, .int .i64 0, .int .i64 0, .int .i64 0, .int .i64 0, .int .i64 0, .int .i64 0, .int .i64 0, .int .i64 0, .bool false, .slice none 0 0, .slice none 0 0, .slice none 0 0]], []⟩) 8 ⟨#[], #[.agg #[.int .i64 0, .int .i64 0, .int .i64 0, .int .i64 0, .int .i64 0, .int .i64 0, .int .i64 0, .int .i64 0, .int .i64 0, .bool false, .slice none 0 0, .slice none 0 0, .slice none 0 0]], []⟩ = true := by kernel_rfl
theorem q4FnExactShowObj (os : Os) (H : Type) (enc : TypeId × Value → H) : Rows.fnExactShowObjSpec.preB enc Try.checked.prog Try.f8 Rows.fnExactShowObjRow.domain false (World.plainHolding Try.checked.prog os ⟨#[], #[.agg #[.int .i64 0, .int .i64 0, .int .i64 0, .int .i64 0, .int .i64 0, .int .i64 0, .int .i64 0, .int .i64 0, .int .i64 0, .bool false, .slice none 0 0, .slice none 0 0, .slice none 0 0]], []⟩).memory #[.agg #[.int .i64 0, .int .i64 0, .int .i64 0, .int .i64 0, .int .i64 0, .int .i64 0, .int .i64 0, .int .i64 0, .int .i64 0, .bool false, .slice none 0 0, .slice none 0 0, .slice none 0 0]] 8 = true := by kernel_rfl
theorem q5FnExactShowObj (os : Os) (H : Type) (enc : TypeId × Value → H) : Rows.fnExactShowObjSpec.sizedB enc Try.checked.prog Try.f8 false (World.plainHolding Try.checked.prog os ⟨#[], #[.agg #[.int .i64 0, .int .i64 0, .int .i64 0, .int .i64 0, .int .i64 0, .int .i64 0, .int .i64 0, .int .i64 0, .int .i64 0, .bool false, .slice none 0 0, .slice none 0 0, .slice none 0 0]], []⟩).memory #[.agg #[.int .i64 0, .int .i64 0, .int .i64 0, .int .i64 0, .int .i64 0, .int .i64 0, .int .i64 0, .int .i64 0, .int .i64 0, .bool false, .slice none 0 0, .slice none 0 0, .slice none 0 0]] 8 = true := by kernel_rfl
theorem witFnExactShowObj (os : Os) (H : Type) (enc : TypeId × Value → H) : ∃ (w : World) (tape : Tape) (i : Input), w.os = os ∧ (w.forCall tape i).Shaped Try.checked.prog ∧ i.vars = [] ∧ Input.okWide Try.checked.prog (w.forCall tape i) .any w.heap.size 8 i ∧
      Rows.fnExactShowObjSpec.pre6 enc Try.checked.prog Try.f8 Rows.fnExactShowObjRow.domain false (w.forCall tape i).memory i.args ∧ ({} : Assume).holds Try.checked.prog (lone (Frame.enter Try.checked.prog 8 i.args .normal) [] (w.forCall tape i)) :=
    (ChangeSpec.witness6 (enc := enc) (C := Try.checked) false ⟨#[], #[.agg #[.int .i64 0, .int .i64 0, .int .i64 0, .int .i64 0, .int .i64 0, .int .i64 0, .int .i64 0, .int .i64 0, .int .i64 0, .bool false, .slice none 0 0, .slice none 0 0, .slice none 0 0]], []⟩ 8 (q1FnExactShowObj os) (q2FnExactShowObj os) (q3FnExactShowObj os) (q4FnExactShowObj os H enc) (q5FnExactShowObj os H enc))
theorem r1FnExactShowObj : Try.checked.prog.inits.idxOf? 8 = none := by kernel_rfl
theorem r2FnExactShowObj : ownKnob Try.checked.prog.godebug = none := Try.own0
theorem r3FnExactShowObj : Try.checked.prog.funcs[8]? = some Try.f8 := Try.func8
theorem rdFnExactShowObj0 : Try.prog.readableRec 66 = true ∧ 66 < Try.prog.types.size := ⟨by kernel_rfl, of_decide_eq_true (by kernel_rfl)⟩
theorem rsFnExactShowObj : (Try.f8).resultTypes = #[4] := by kernel_rfl

set_option maxRecDepth 100000 in
theorem contractFnExactShowObj (H : Type) (enc : TypeId × Value → H) (W : World) (base : Nat) (args : Array Value) (ds gs : List (DataW H)) (before : List MemPlace)
    (hval : ∀ (j : Nat) t v, (Try.f8).params[j]? = some t → args[j]? = some v → Value.okWide Try.prog W .any base t v)
    (hW : DataW.Whole enc Try.prog (Try.f8).params.toList Rows.fnExactShowObjSpec.vars false W args.toList ds gs before) :
    Calls Try.prog 8 args W fun e W' => ∃ v, e = .returned v ∧ Rows.fnExactShowObjSpec.post enc Try.prog Try.f8 false true false false W args v W' := by
  have hW' := hW
  obtain ⟨p, q, hA0, hV, rfl, hfz, hnd⟩ := hW
  have hA : DataW.TrodAll enc Try.prog W 0 (fun _ => true) true (Try.f8).params.toList args.toList ds p := hA0
  rw [Try.params8] at hA hval
  obtain ⟨v0, vs0, d0, ds0, p0, q0, hargs, rfl, rfl, h0, r0⟩ := trodAll_cons hA
  obtain ⟨rfl, rfl, rfl⟩ := trodAll_nil r0
  obtain rfl : args = #[v0] := by cases args; simp_all
  obtain ⟨x0, vl0, vd0, vq0, rfl, ho0⟩ := openAggThing (hval 0 66 v0 rfl rfl) h0
  refine (lawFnExactShowObj_walk x0 vl0 vd0 vq0 W ho0).mono fun e W' ⟨he, hb⟩ => ?_
  subst he
  refine ⟨_, rfl, law_post Try.laidOut0 ?_ rsFnExactShowObj Try.underlying4 rfl hW' rfl hb⟩
  rw [Try.params8]
  intro t ht
  simp only [List.mem_cons, List.not_mem_nil, or_false] at ht
  subst ht
  exact rdFnExactShowObj0

theorem liftedFnExactShowObj (os : Os) (started : os.Started) (H : Type) (enc : TypeId × Value → H) :
    ReturnsInHanded {} Try.checked os 8 .any (Rows.fnExactShowObjSpec.pre6 enc Try.checked.prog Try.f8 Rows.fnExactShowObjRow.domain false) (Rows.fnExactShowObjSpec.post enc Try.checked.prog Try.f8 false true false false) := by
  refine returnsInHanded_of_change (C := Try.checked) r2FnExactShowObj started r1FnExactShowObj r3FnExactShowObj (witFnExactShowObj os H enc) ?_
  rw [Try.progEq0]
  intro W base args ds gs before hval hW hcnd _
  exact contractFnExactShowObj H enc W base args ds gs before @hval hW

theorem lifted2FnExactShowObj (os : Os) (started : os.Started) (H : Type) (enc : TypeId × Value → H) :
    ReturnsInHanded {} Try.checked os 8 .any (Rows.fnExactShowObjSpec.pre6 enc Try.prog Try.f8 Rows.fnExactShowObjRow.domain false) (Rows.fnExactShowObjSpec.post enc Try.prog Try.f8 false true false false) := by
  have h := liftedFnExactShowObj os started H enc
  rw [Try.progEq0] at h
  exact h

theorem FnExactShowObj_holds : Rows.FnExactShowObjSaid :=
  OpenClaim.holds_of_wide 8 Try.f8 rfl rfl rfl rfl rfl rfl rfl ⟨rfl, rfl, rfl, rfl, rfl⟩ rfl rfl rfl rfl rfl (by kernel_rfl) Try.func8 (by kernel_rfl)
    (of_decide_eq_true (by kernel_rfl)) (by unfold Func.isWrapper; first | (rw [if_pos (by decide +kernel)]; kernel_rfl) | (rw [if_neg (by decide +kernel)]; exact ⟨rfl, rfl⟩))
    (fun os started H enc _ => lifted2FnExactShowObj os started H enc)
#print axioms FnExactShowObj_holds

end Go.Proofs.Ytnchmenpgmlpdaa
