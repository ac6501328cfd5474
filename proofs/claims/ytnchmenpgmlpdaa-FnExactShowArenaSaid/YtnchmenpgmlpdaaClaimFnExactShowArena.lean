/- FnExactShowArena: for all arguments the program's ShowArena answers what the reference's answers, and the argument stays. No condition. -/
import Derived.Test.YtnchmenpgmlpdaaTop
import Derived.Test.YtnchmenpgmlpdaaThingsOpen
import Derived.Test.YtnchmenpgmlpdaaLawShowArena
namespace Go.Proofs.Ytnchmenpgmlpdaa
open Go.ChangeShapes Go.WideShapes Go.ChangeAt Go.RowKit Go.Deep

theorem q1FnExactShowArena (os : Os) : (World.plainHolding Try.checked.prog os ⟨#[], #[.slice none 0 0], []⟩).variablesB Try.checked.prog = true := by kernel_rfl
theorem q2FnExactShowArena (os : Os) : ((World.plainHolding Try.checked.prog os ⟨#[], #[.slice none 0 0], []⟩).heap.toList.drop Try.checked.prog.globals.size).take ((begin Try.checked.prog (fun _ _ => 0) default).world.heap.size - Try.checked.prog.globals.size) =
      (begin Try.checked.prog (fun _ _ => 0) default).world.heap.toList.drop Try.checked.prog.globals.size := by kernel_rfl
theorem q3FnExactShowArena (os : Os) : Input.okWideB Try.checked.prog (World.plainHolding Try.checked.prog os ⟨#[], #[.slice none 0 0], []⟩) 10 ⟨#[], #[.slice none 0 0], []⟩ = true := by kernel_rfl
theorem q4FnExactShowArena (os : Os) (H : Type) (enc : TypeId × Value → H) : Rows.fnExactShowArenaSpec.preB enc Try.checked.prog Try.f10 Rows.fnExactShowArenaRow.domain false (World.plainHolding Try.checked.prog os ⟨#[], #[.slice none 0 0], []⟩).memory #[.slice none 0 0] 8 = true := by kernel_rfl
theorem q5FnExactShowArena (os : Os) (H : Type) (enc : TypeId × Value → H) : Rows.fnExactShowArenaSpec.sizedB enc Try.checked.prog Try.f10 false (World.plainHolding Try.checked.prog os ⟨#[], #[.slice none 0 0], []⟩).memory #[.slice none 0 0] 8 = true := by kernel_rfl
theorem witFnExactShowArena (os : Os) (H : Type) (enc : TypeId × Value → H) : ∃ (w : World) (tape : Tape) (i : Input), w.os = os ∧ (w.forCall tape i).Shaped Try.checked.prog ∧ i.vars = [] ∧ Input.okWide Try.checked.prog (w.forCall tape i) .any w.heap.size 10 i ∧
      Rows.fnExactShowArenaSpec.pre6 enc Try.checked.prog Try.f10 Rows.fnExactShowArenaRow.domain false (w.forCall tape i).memory i.args ∧ ({} : Assume).holds Try.checked.prog (lone (Frame.enter Try.checked.prog 10 i.args .normal) [] (w.forCall tape i)) :=
    (ChangeSpec.witness6 (enc := enc) (C := Try.checked) false ⟨#[], #[.slice none 0 0], []⟩ 8 (q1FnExactShowArena os) (q2FnExactShowArena os) (q3FnExactShowArena os) (q4FnExactShowArena os H enc) (q5FnExactShowArena os H enc))
theorem r1FnExactShowArena : Try.checked.prog.inits.idxOf? 10 = none := by kernel_rfl
theorem r2FnExactShowArena : ownKnob Try.checked.prog.godebug = none := Try.own0
theorem r3FnExactShowArena : Try.checked.prog.funcs[10]? = some Try.f10 := Try.func10
theorem rdFnExactShowArena0 : Try.prog.readableRec 78 = true ∧ 78 < Try.prog.types.size := ⟨by kernel_rfl, of_decide_eq_true (by kernel_rfl)⟩
theorem rsFnExactShowArena : (Try.f10).resultTypes = #[4] := by kernel_rfl

set_option maxRecDepth 100000 in
theorem contractFnExactShowArena (H : Type) (enc : TypeId × Value → H) (W : World) (base : Nat) (args : Array Value) (ds gs : List (DataW H)) (before : List MemPlace)
    (hval : ∀ (j : Nat) t v, (Try.f10).params[j]? = some t → args[j]? = some v → Value.okWide Try.prog W .any base t v)
    (hW : DataW.Whole enc Try.prog (Try.f10).params.toList Rows.fnExactShowArenaSpec.vars false W args.toList ds gs before) :
    Calls Try.prog 10 args W fun e W' => ∃ v, e = .returned v ∧ Rows.fnExactShowArenaSpec.post enc Try.prog Try.f10 false true false false W args v W' := by
  have hW' := hW
  obtain ⟨p, q, hA0, hV, rfl, hfz, hnd⟩ := hW
  have hA : DataW.TrodAll enc Try.prog W 0 (fun _ => true) true (Try.f10).params.toList args.toList ds p := hA0
  rw [Try.params10] at hA hval
  obtain ⟨v0, vs0, d0, ds0, p0, q0, hargs, rfl, rfl, h0, r0⟩ := trodAll_cons hA
  obtain ⟨rfl, rfl, rfl⟩ := trodAll_nil r0
  obtain rfl : args = #[v0] := by cases args; simp_all
  obtain ⟨a0, n0, cap0, l0, rfl, hn0, hm0, hrd0, hsh0⟩ := openThings (hval 0 78 v0 rfl rfl) h0
  refine (lawFnExactShowArena_walk a0 n0 cap0 l0 hn0 hm0 W hrd0 hsh0).mono fun e W' ⟨he, hb⟩ => ?_
  subst he
  refine ⟨_, rfl, law_post Try.laidOut0 ?_ rsFnExactShowArena Try.underlying4 rfl hW' rfl hb⟩
  rw [Try.params10]
  intro t ht
  simp only [List.mem_cons, List.not_mem_nil, or_false] at ht
  subst ht
  exact rdFnExactShowArena0

theorem liftedFnExactShowArena (os : Os) (started : os.Started) (H : Type) (enc : TypeId × Value → H) :
    ReturnsInHanded {} Try.checked os 10 .any (Rows.fnExactShowArenaSpec.pre6 enc Try.checked.prog Try.f10 Rows.fnExactShowArenaRow.domain false) (Rows.fnExactShowArenaSpec.post enc Try.checked.prog Try.f10 false true false false) := by
  refine returnsInHanded_of_change (C := Try.checked) r2FnExactShowArena started r1FnExactShowArena r3FnExactShowArena (witFnExactShowArena os H enc) ?_
  rw [Try.progEq0]
  intro W base args ds gs before hval hW hcnd _
  exact contractFnExactShowArena H enc W base args ds gs before @hval hW

theorem lifted2FnExactShowArena (os : Os) (started : os.Started) (H : Type) (enc : TypeId × Value → H) :
    ReturnsInHanded {} Try.checked os 10 .any (Rows.fnExactShowArenaSpec.pre6 enc Try.prog Try.f10 Rows.fnExactShowArenaRow.domain false) (Rows.fnExactShowArenaSpec.post enc Try.prog Try.f10 false true false false) := by
  have h := liftedFnExactShowArena os started H enc
  rw [Try.progEq0] at h
  exact h

theorem FnExactShowArena_holds : Rows.FnExactShowArenaSaid :=
  OpenClaim.holds_of_wide 10 Try.f10 rfl rfl rfl rfl rfl rfl rfl ⟨rfl, rfl, rfl, rfl, rfl⟩ rfl rfl rfl rfl rfl (by kernel_rfl) Try.func10 (by kernel_rfl)
    (of_decide_eq_true (by kernel_rfl)) (by unfold Func.isWrapper; first | (rw [if_pos (by decide +kernel)]; kernel_rfl) | (rw [if_neg (by decide +kernel)]; exact ⟨rfl, rfl⟩))
    (fun os started H enc _ => lifted2FnExactShowArena os started H enc)
#print axioms FnExactShowArena_holds

end Go.Proofs.Ytnchmenpgmlpdaa
