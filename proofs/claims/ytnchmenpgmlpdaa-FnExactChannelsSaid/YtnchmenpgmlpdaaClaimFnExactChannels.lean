/- FnExactChannels: for all arguments the program's Channels answers what the reference's answers, in memory of its own, and the arguments stay. No condition. -/
import Derived.Test.YtnchmenpgmlpdaaTop
import Derived.Test.YtnchmenpgmlpdaaBootOpen
import Derived.Test.YtnchmenpgmlpdaaLawChannels
namespace Go.Proofs.Ytnchmenpgmlpdaa
open Go.ChangeShapes Go.WideShapes Go.ChangeAt Go.RowKit Go.Deep

theorem q1FnExactChannels (os : Os) : (World.plainHolding Try.checked.prog os ⟨#[], #[.slice none 0 0, .bool false], []⟩).variablesB Try.checked.prog = true := by kernel_rfl
theorem q2FnExactChannels (os : Os) : ((World.plainHolding Try.checked.prog os ⟨#[], #[.slice none 0 0, .bool false], []⟩).heap.toList.drop Try.checked.prog.globals.size).take ((begin Try.checked.prog (fun _ _ => 0) default).world.heap.size - Try.checked.prog.globals.size) =
      (begin Try.checked.prog (fun _ _ => 0) default).world.heap.toList.drop Try.checked.prog.globals.size := by kernel_rfl
theorem q3FnExactChannels (os : Os) : Input.okWideB Try.checked.prog (World.plainHolding Try.checked.prog os ⟨#[], #[.slice none 0 0, .bool false], []⟩) 3 ⟨#[], #[.slice none 0 0, .bool false], []⟩ = true := by kernel_rfl
theorem q4FnExactChannels (os : Os) (H : Type) (enc : TypeId × Value → H) : Rows.fnExactChannelsSpec.preB enc Try.checked.prog Try.f3 Rows.fnExactChannelsRow.domain false (World.plainHolding Try.checked.prog os ⟨#[], #[.slice none 0 0, .bool false], []⟩).memory #[.slice none 0 0, .bool false] 8 = true := by kernel_rfl
theorem q5FnExactChannels (os : Os) (H : Type) (enc : TypeId × Value → H) : Rows.fnExactChannelsSpec.sizedB enc Try.checked.prog Try.f3 false (World.plainHolding Try.checked.prog os ⟨#[], #[.slice none 0 0, .bool false], []⟩).memory #[.slice none 0 0, .bool false] 8 = true := by kernel_rfl
theorem witFnExactChannels (os : Os) (H : Type) (enc : TypeId × Value → H) : ∃ (w : World) (tape : Tape) (i : Input), w.os = os ∧ (w.forCall tape i).Shaped Try.checked.prog ∧ i.vars = [] ∧ Input.okWide Try.checked.prog (w.forCall tape i) .any w.heap.size 3 i ∧
      Rows.fnExactChannelsSpec.pre6 enc Try.checked.prog Try.f3 Rows.fnExactChannelsRow.domain false (w.forCall tape i).memory i.args ∧ ({} : Assume).holds Try.checked.prog (lone (Frame.enter Try.checked.prog 3 i.args .normal) [] (w.forCall tape i)) :=
    (ChangeSpec.witness6 (enc := enc) (C := Try.checked) false ⟨#[], #[.slice none 0 0, .bool false], []⟩ 8 (q1FnExactChannels os) (q2FnExactChannels os) (q3FnExactChannels os) (q4FnExactChannels os H enc) (q5FnExactChannels os H enc))
theorem r1FnExactChannels : Try.checked.prog.inits.idxOf? 3 = none := by kernel_rfl
theorem r2FnExactChannels : ownKnob Try.checked.prog.godebug = none := Try.own0
theorem r3FnExactChannels : Try.checked.prog.funcs[3]? = some Try.f3 := Try.func3
theorem rdFnExactChannels0 : Try.prog.readableRec 22 = true ∧ 22 < Try.prog.types.size := ⟨by kernel_rfl, of_decide_eq_true (by kernel_rfl)⟩
theorem rdFnExactChannels1 : Try.prog.readableRec 4 = true ∧ 4 < Try.prog.types.size := ⟨by kernel_rfl, of_decide_eq_true (by kernel_rfl)⟩
theorem rsFnExactChannels : (Try.f3).resultTypes = #[4] := by kernel_rfl

set_option maxRecDepth 100000 in
theorem contractFnExactChannels (H : Type) (enc : TypeId × Value → H) (W : World) (base : Nat) (args : Array Value) (ds gs : List (DataW H)) (before : List MemPlace)
    (hval : ∀ (j : Nat) t v, (Try.f3).params[j]? = some t → args[j]? = some v → Value.okWide Try.prog W .any base t v)
    (hW : DataW.Whole enc Try.prog (Try.f3).params.toList Rows.fnExactChannelsSpec.vars false W args.toList ds gs before) :
    Calls Try.prog 3 args W fun e W' => ∃ v, e = .returned v ∧ Rows.fnExactChannelsSpec.post enc Try.prog Try.f3 false true false false W args v W' := by
  have hW' := hW
  obtain ⟨p, q, hA0, hV, rfl, hfz, hnd⟩ := hW
  have hA : DataW.TrodAll enc Try.prog W 0 (fun _ => true) true (Try.f3).params.toList args.toList ds p := hA0
  rw [Try.params3] at hA hval
  obtain ⟨v0, vs0, d0, ds0, p0, q0, hargs, rfl, rfl, h0, r0⟩ := trodAll_cons hA
  obtain ⟨v1, vs1, d1, ds1, p1, q1, rfl, rfl, rfl, h1, r1⟩ := trodAll_cons r0
  obtain ⟨rfl, rfl, rfl⟩ := trodAll_nil r1
  obtain rfl : args = #[v0, v1] := by cases args; simp_all
  obtain ⟨a0, n0, cap0, l0, rfl, hn0, hm0, hrd0⟩ := openBoots (hval 0 22 v0 rfl rfl) h0
  obtain ⟨a1, rfl, rfl, rfl⟩ := open_bool Try.underlying4 (hval 1 4 v1 rfl rfl) h1
  refine (lawFnExactChannels_walk a0 n0 cap0 l0 hn0 hm0 a1 W hrd0).mono fun e W' ⟨he, hb⟩ => ?_
  subst he
  refine ⟨_, rfl, law_post Try.laidOut0 ?_ rsFnExactChannels Try.underlying4 rfl hW' rfl hb⟩
  rw [Try.params3]
  intro t ht
  simp only [List.mem_cons, List.not_mem_nil, or_false] at ht
  rcases ht with rfl | rfl
  · exact rdFnExactChannels0
  · exact rdFnExactChannels1

theorem liftedFnExactChannels (os : Os) (started : os.Started) (H : Type) (enc : TypeId × Value → H) :
    ReturnsInHanded {} Try.checked os 3 .any (Rows.fnExactChannelsSpec.pre6 enc Try.checked.prog Try.f3 Rows.fnExactChannelsRow.domain false) (Rows.fnExactChannelsSpec.post enc Try.checked.prog Try.f3 false true false false) := by
  refine returnsInHanded_of_change (C := Try.checked) r2FnExactChannels started r1FnExactChannels r3FnExactChannels (witFnExactChannels os H enc) ?_
  rw [Try.progEq0]
  intro W base args ds gs before hval hW hcnd _
  exact contractFnExactChannels H enc W base args ds gs before @hval hW

theorem lifted2FnExactChannels (os : Os) (started : os.Started) (H : Type) (enc : TypeId × Value → H) :
    ReturnsInHanded {} Try.checked os 3 .any (Rows.fnExactChannelsSpec.pre6 enc Try.prog Try.f3 Rows.fnExactChannelsRow.domain false) (Rows.fnExactChannelsSpec.post enc Try.prog Try.f3 false true false false) := by
  have h := liftedFnExactChannels os started H enc
  rw [Try.progEq0] at h
  exact h

theorem FnExactChannels_holds : Rows.FnExactChannelsSaid :=
  OpenClaim.holds_of_wide 3 Try.f3 rfl rfl rfl rfl rfl rfl rfl ⟨rfl, rfl, rfl, rfl, rfl⟩ rfl rfl rfl rfl rfl (by kernel_rfl) Try.func3 (by kernel_rfl)
    (of_decide_eq_true (by kernel_rfl)) (by unfold Func.isWrapper; first | (rw [if_pos (by decide +kernel)]; kernel_rfl) | (rw [if_neg (by decide +kernel)]; exact ⟨rfl, rfl⟩))
    (fun os started H enc _ => lifted2FnExactChannels os started H enc)
#print axioms FnExactChannels_holds

end Go.Proofs.Ytnchmenpgmlpdaa
