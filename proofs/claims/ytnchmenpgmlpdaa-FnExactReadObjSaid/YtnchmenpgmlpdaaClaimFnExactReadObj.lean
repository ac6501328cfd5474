/- FnExactReadObj: for every text the program's ReadObj answers what the reference's answers, in memory of its own. No condition. -/
import Derived.Test.YtnchmenpgmlpdaaTop
import Derived.Test.YtnchmenpgmlpdaaLawReadObj
namespace Go.Proofs.Ytnchmenpgmlpdaa
open Go.ChangeShapes Go.WideShapes Go.ChangeAt Go.RowKit Go.Deep

theorem q1FnExactReadObj (os : Os) : (World.plainHolding Try.checked.prog os ⟨#[], #[.string ⟨#[]⟩], []⟩).variablesB Try.checked.prog = true := by kernel_rfl
theorem q2FnExactReadObj (os : Os) : ((World.plainHolding Try.checked.prog os ⟨#[], #[.string ⟨#[]⟩], []⟩).heap.toList.drop Try.checked.prog.globals.size).take ((begin Try.checked.prog (fun _ _ => 0) default).world.heap.size - Try.checked.prog.globals.size) =
      (begin Try.checked.prog (fun _ _ => 0) default).world.heap.toList.drop Try.checked.prog.globals.size := by kernel_rfl
theorem q3FnExactReadObj (os : Os) : Input.okWideB Try.checked.prog (World.plainHolding Try.checked.prog os ⟨#[], #[.string ⟨#[]⟩], []⟩) 9 ⟨#[], #[.string ⟨#[]⟩], []⟩ = true := by kernel_rfl
theorem q4FnExactReadObj (os : Os) (H : Type) (enc : TypeId × Value → H) : Rows.fnExactReadObjSpec.preB enc Try.checked.prog Try.f9 Rows.fnExactReadObjRow.domain false (World.plainHolding Try.checked.prog os ⟨#[], #[.string ⟨#[]⟩], []⟩).memory #[.string ⟨#[]⟩] 8 = true := by kernel_rfl
theorem q5FnExactReadObj (os : Os) (H : Type) (enc : TypeId × Value → H) : Rows.fnExactReadObjSpec.sizedB enc Try.checked.prog Try.f9 false (World.plainHolding Try.checked.prog os ⟨#[], #[.string ⟨#[]⟩], []⟩).memory #[.string ⟨#[]⟩] 8 = true := by kernel_rfl
theorem witFnExactReadObj (os : Os) (H : Type) (enc : TypeId × Value → H) : ∃ (w : World) (tape : Tape) (i : Input), w.os = os ∧ (w.forCall tape i).Shaped Try.checked.prog ∧ i.vars = [] ∧ Input.okWide Try.checked.prog (w.forCall tape i) .any w.heap.size 9 i ∧
      Rows.fnExactReadObjSpec.pre6 enc Try.checked.prog Try.f9 Rows.fnExactReadObjRow.domain false (w.forCall tape i).memory i.args ∧ ({} : Assume).holds Try.checked.prog (lone (Frame.enter Try.checked.prog 9 i.args .normal) [] (w.forCall tape i)) :=
    (ChangeSpec.witness6 (enc := enc) (C := Try.checked) false ⟨#[], #[.string ⟨#[]⟩], []⟩ 8 (q1FnExactReadObj os) (q2FnExactReadObj os) (q3FnExactReadObj os) (q4FnExactReadObj os H enc) (q5FnExactReadObj os H enc))
theorem r1FnExactReadObj : Try.checked.prog.inits.idxOf? 9 = none := by kernel_rfl
theorem r2FnExactReadObj : ownKnob Try.checked.prog.godebug = none := Try.own0
theorem r3FnExactReadObj : Try.checked.prog.funcs[9]? = some Try.f9 := Try.func9
theorem rdFnExactReadObj0 : Try.prog.readableRec 9 = true ∧ 9 < Try.prog.types.size := ⟨by kernel_rfl, of_decide_eq_true (by kernel_rfl)⟩
theorem rsFnExactReadObj : (Try.f9).resultTypes = #[4] := by kernel_rfl

set_option maxRecDepth 100000 in
theorem contractFnExactReadObj (H : Type) (enc : TypeId × Value → H) (W : World) (base : Nat) (args : Array Value) (ds gs : List (DataW H)) (before : List MemPlace)
    (hval : ∀ (j : Nat) t v, (Try.f9).params[j]? = some t → args[j]? = some v → Value.okWide Try.prog W .any base t v)
    (hW : DataW.Whole enc Try.prog (Try.f9).params.toList Rows.fnExactReadObjSpec.vars false W args.toList ds gs before) :
    Calls Try.prog 9 args W fun e W' => ∃ v, e = .returned v ∧ Rows.fnExactReadObjSpec.post enc Try.prog Try.f9 false true false false W args v W' := by
  have hW' := hW
  obtain ⟨p, q, hA0, hV, rfl, hfz, hnd⟩ := hW
  have hA : DataW.TrodAll enc Try.prog W 0 (fun _ => true) true (Try.f9).params.toList args.toList ds p := hA0
  rw [Try.params9] at hA hval
  obtain ⟨v0, vs0, d0, ds0, p0, q0, hargs, rfl, rfl, h0, r0⟩ := trodAll_cons hA
  obtain ⟨rfl, rfl, rfl⟩ := trodAll_nil r0
  obtain rfl : args = #[v0] := by cases args; simp_all
  obtain ⟨a0, rfl, rfl, rfl, w0⟩ := Go.ChangeMaps.open_string Try.underlying9 (hval 0 9 v0 rfl rfl) h0
  refine (lawFnExactReadObj_walk a0 w0 W).mono fun e W' ⟨he, hb⟩ => ?_
  subst he
  refine ⟨_, rfl, law_post Try.laidOut0 ?_ rsFnExactReadObj Try.underlying4 rfl hW' rfl hb⟩
  rw [Try.params9]
  intro t ht
  simp only [List.mem_cons, List.not_mem_nil, or_false] at ht
  subst ht
  exact rdFnExactReadObj0

theorem liftedFnExactReadObj (os : Os) (started : os.Started) (H : Type) (enc : TypeId × Value → H) :
    ReturnsInHanded {} Try.checked os 9 .any (Rows.fnExactReadObjSpec.pre6 enc Try.checked.prog Try.f9 Rows.fnExactReadObjRow.domain false) (Rows.fnExactReadObjSpec.post enc Try.checked.prog Try.f9 false true false false) := by
  refine returnsInHanded_of_change (C := Try.checked) r2FnExactReadObj started r1FnExactReadObj r3FnExactReadObj (witFnExactReadObj os H enc) ?_
  rw [Try.progEq0]
  intro W base args ds gs before hval hW hcnd _
  exact contractFnExactReadObj H enc W base args ds gs before @hval hW

theorem lifted2FnExactReadObj (os : Os) (started : os.Started) (H : Type) (enc : TypeId × Value → H) :
    ReturnsInHanded {} Try.checked os 9 .any (Rows.fnExactReadObjSpec.pre6 enc Try.prog Try.f9 Rows.fnExactReadObjRow.domain false) (Rows.fnExactReadObjSpec.post enc Try.prog Try.f9 false true false false) := by
  have h := liftedFnExactReadObj os started H enc
  rw [Try.progEq0] at h
  exact h

theorem FnExactReadObj_holds : Rows.FnExactReadObjSaid :=
  OpenClaim.holds_of_wide 9 Try.f9 rfl rfl rfl rfl rfl rfl rfl ⟨rfl, rfl, rfl, rfl, rfl⟩ rfl rfl rfl rfl rfl (by kernel_rfl) Try.func9 (by kernel_rfl)
    (of_decide_eq_true (by kernel_rfl)) (by unfold Func.isWrapper; first | (rw [if_pos (by decide +kernel)]; kernel_rfl) | (rw [if_neg (by decide +kernel)]; exact ⟨rfl, rfl⟩))
    (fun os started H enc _ => lifted2FnExactReadObj os started H enc)
#print axioms FnExactReadObj_holds

end Go.Proofs.Ytnchmenpgmlpdaa
