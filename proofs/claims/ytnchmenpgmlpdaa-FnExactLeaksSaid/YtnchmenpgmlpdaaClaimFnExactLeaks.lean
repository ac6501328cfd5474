/- FnExactLeaks: for all arguments the program's Leaks answers what the reference's answers, in memory of its own, and the arguments stay. No condition. -/
import Derived.Test.YtnchmenpgmlpdaaTop
import Derived.Test.YtnchmenpgmlpdaaBootOpen
import Derived.Test.YtnchmenpgmlpdaaLawLeaks
namespace Go.Proofs.Ytnchmenpgmlpdaa
open Go.ChangeShapes Go.WideShapes Go.ChangeAt Go.RowKit Go.Deep

theorem q1FnExactLeaks (os : Os) : (World.plainHolding Try.checked.prog os ⟨#[], #[.slice none 0 0], []⟩).variablesB Try.checked.prog = true := by kernel_rfl
theorem q2FnExactLeaks (os : Os) : ((World.plainHolding Try.checked.prog os ⟨#[], #[.slice none 0 0], []⟩).heap.toList.drop Try.checked.prog.globals.size).take ((begin Try.checked.prog (fun _ _ => 0) default).world.heap.size - Try.checked.prog.globals.size) =
      (begin Try.checked.prog (fun _ _ => 0) default).world.heap.toList.drop Try.checked.prog.globals.size := by kernel_rfl
theorem q3FnExactLeaks (os : Os) : Input.okWideB Try.checked.prog (World.plainHolding Try.checked.prog os ⟨#[], #[.slice none 0 0], []⟩) 4 ⟨#[], #[.slice none 0 0], []⟩ = true := by kernel_rfl
theorem q4FnExactLeaks (os : Os) (H : Type) (enc : TypeId × Value → H) : Rows.fnExactLeaksSpec.preB enc Try.checked.prog Try.f4 Rows.fnExactLeaksRow.domain false (World.plainHolding Try.checked.prog os ⟨#[], #[.slice none 0 0], []⟩).memory #[.slice none 0 0] 8 = true := by kernel_rfl
theorem q5FnExactLeaks (os : Os) (H : Type) (enc : TypeId × Value → H) : Rows.fnExactLeaksSpec.sizedB enc Try.checked.prog Try.f4 false (World.plainHolding Try.checked.prog os ⟨#[], #[.slice none 0 0], []⟩).memory #[.slice none 0 0] 8 = true := by kernel_rfl
theorem witFnExactLeaks (os : Os) (H : Type) (enc : TypeId × Value → H) : ∃ (w : World) (tape : Tape) (i : Input), w.os = os ∧ (w.forCall tape i).Shaped Try.checked.prog ∧ i.vars = [] ∧ Input.okWide Try.checked.prog (w.forCall tape i) .any w.heap.size 4 i ∧
      Rows.fnExactLeaksSpec.pre6 enc Try.checked.prog Try.f4 Rows.fnExactLeaksRow.domain false (w.forCall tape i).memory i.args ∧ ({} : Assume).holds Try.checked.prog (lone (Frame.enter Try.checked.prog 4 i.args .normal) [] (w.forCall tape i)) :=
    (ChangeSpec.witness6 (enc := enc) (C := Try.checked) false ⟨#[], #[.slice none 0 0], []⟩ 8 (q1FnExactLeaks os) (q2FnExactLeaks os) (q3FnExactLeaks os) (q4FnExactLeaks os H enc) (q5FnExactLeaks os H enc))
theorem r1FnExactLeaks : Try.checked.prog.inits.idxOf? 4 = none := by kernel_rfl
theorem r2FnExactLeaks : ownKnob Try.checked.prog.godebug = none := Try.own0
theorem r3FnExactLeaks : Try.checked.prog.funcs[4]? = some Try.f4 := Try.func4
theorem rdFnExactLeaks0 : Try.prog.readableRec 22 = true ∧ 22 < Try.prog.types.size := ⟨by kernel_rfl, of_decide_eq_true (by kernel_rfl)⟩
theorem rsFnExactLeaks : (Try.f4).resultTypes = #[4] := by kernel_rfl

set_option maxRecDepth 100000 in
theorem contractFnExactLeaks (H : Type) (enc : TypeId × Value → H) (W : World) (base : Nat) (args : Array Value) (ds gs : List (DataW H)) (before : List MemPlace)
    (hval : ∀ (j : Nat) t v, (Try.f4).params[j]? = some t → args[j]? = some v → Value.okWide Try.prog W .any base t v)
    (hW : DataW.Whole enc Try.prog (Try.f4).params.toList Rows.fnExactLeaksSpec.vars false W args.toList ds gs before) :
    Calls Try.prog 4 args W fun e W' => ∃ v, e = .returned v ∧ Rows.fnExactLeaksSpec.post enc Try.prog Try.f4 false true false false W args v W' := by
  have hW' := hW
  obtain ⟨p, q, hA0, hV, rfl, hfz, hnd⟩ := hW
  have hA : DataW.TrodAll enc Try.prog W 0 (fun _ => true) true (Try.f4).params.toList args.toList ds p := hA0
  rw [Try.params4] at hA hval
  obtain ⟨v0, vs0, d0, ds0, p0, q0, hargs, rfl, rfl, h0, r0⟩ := trodAll_cons hA
  obtain ⟨rfl, rfl, rfl⟩ := trodAll_nil r0
  obtain rfl : args = #[v0] := by cases args; simp_all
  obtain ⟨a0, n0, cap0, l0, rfl, hn0, hm0, hrd0⟩ := openBoots (hval 0 22 v0 rfl rfl) h0
  refine (lawFnExactLeaks_walk a0 n0 cap0 l0 hn0 hm0 W hrd0).mono fun e W' ⟨he, hb⟩ => ?_
  subst he
  refine ⟨_, rfl, law_post Try.laidOut0 ?_ rsFnExactLeaks Try.underlying4 rfl hW' rfl hb⟩
  rw [Try.params4]
  intro t ht
  simp only [List.mem_cons, List.not_mem_nil, or_false] at ht
  subst ht
  exact rdFnExactLeaks0

theorem liftedFnExactLeaks (os : Os) (started : os.Started) (H : Type) (enc : TypeId × Value → H) :
    ReturnsInHanded {} Try.checked os 4 .any (Rows.fnExactLeaksSpec.pre6 enc Try.checked.prog Try.f4 Rows.fnExactLeaksRow.domain false) (Rows.fnExactLeaksSpec.post enc Try.checked.prog Try.f4 false true false false) := by
  refine returnsInHanded_of_change (C := Try.checked) r2FnExactLeaks started r1FnExactLeaks r3FnExactLeaks (witFnExactLeaks os H enc) ?_
  rw [Try.progEq0]
  intro W base args ds gs before hval hW hcnd _
  exact contractFnExactLeaks H enc W base args ds gs before @hval hW

theorem lifted2FnExactLeaks (os : Os) (started : os.Started) (H : Type) (enc : TypeId × Value → H) :
    ReturnsInHanded {} Try.checked os 4 .any (Rows.fnExactLeaksSpec.pre6 enc Try.prog Try.f4 Rows.fnExactLeaksRow.domain false) (Rows.fnExactLeaksSpec.post enc Try.prog Try.f4 false true false false) := by
  have h := liftedFnExactLeaks os started H enc
  rw [Try.progEq0] at h
  exact h

theorem FnExactLeaks_holds : Rows.FnExactLeaksSaid :=
  OpenClaim.holds_of_wide 4 Try.f4 rfl rfl rfl rfl rfl rfl rfl ⟨rfl, rfl, rfl, rfl, rfl⟩ rfl rfl rfl rfl rfl (by kernel_rfl) Try.func4 (by kernel_rfl)
    (of_decide_eq_true (by kernel_rfl)) (by unfold Func.isWrapper; first | (rw [if_pos (by decide +kernel)]; kernel_rfl) | (rw [if_neg (by decide +kernel)]; exact ⟨rfl, rfl⟩))
    (fun os started H enc _ => lifted2FnExactLeaks os started H enc)
#print axioms FnExactLeaks_holds

end Go.Proofs.Ytnchmenpgmlpdaa
