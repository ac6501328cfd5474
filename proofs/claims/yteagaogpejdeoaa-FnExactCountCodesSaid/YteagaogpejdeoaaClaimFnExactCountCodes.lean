/- FnExactCountCodes: for every list of replies the program's CountCodes answers what the reference's answers, in memory of its own. No condition. -/
import Derived.Test.YteagaogpejdeoaaTop
import Derived.Test.YteagaogpejdeoaaLawCountCodes
namespace Go.Proofs.Yteagaogpejdeoaa
open Go.ChangeShapes Go.WideShapes Go.ChangeAt Go.RowKit Go.Deep

set_option maxRecDepth 100000 in
theorem decReply {H : Type} {enc : TypeId × Value → H} {W : World} (n : Nat) (cs : List Value) (y : DataW H × List MemPlace) (h : DataW.trod enc Try.prog W 0 (fun _ => true) true n 97 cs = some y) : ∃ x : Reply, cs = x.enc := by
  obtain ⟨xs, m, _, _, hlen, hxl, hg⟩ := DataW.trod_struct Try.underlying97 h
  rw [show Try.prog.cellsOf 97 = 2 from by kernel_rfl] at hlen
  match cs, hlen with
  | [c0, c1], _ =>
    have c3 : Try.prog.cellsOf 3 = 1 := by kernel_rfl
    obtain ⟨v0, rfl⟩ := fld_int (hg 0 _ rfl) (by rw [hxl]; decide) Try.underlying3 (by show List.take (Try.prog.cellsOf 3) (List.drop 0 _) = [c0]; rw [c3]; rfl)
    obtain ⟨v1, rfl⟩ := fld_int (hg 1 _ rfl) (by rw [hxl]; decide) Try.underlying3 (by show List.take (Try.prog.cellsOf 3) (List.drop 1 _) = [c1]; rw [c3]; rfl)
    exact ⟨⟨v0, v1⟩, rfl⟩

theorem q1FnExactCountCodes (os : Os) : (World.plainHolding Try.checked.prog os ⟨#[], #[.slice none 0 0], []⟩).variablesB Try.checked.prog = true := by kernel_rfl
theorem q2FnExactCountCodes (os : Os) : ((World.plainHolding Try.checked.prog os ⟨#[], #[.slice none 0 0], []⟩).heap.toList.drop Try.checked.prog.globals.size).take ((begin Try.checked.prog (fun _ _ => 0) default).world.heap.size - Try.checked.prog.globals.size) =
      (begin Try.checked.prog (fun _ _ => 0) default).world.heap.toList.drop Try.checked.prog.globals.size := by kernel_rfl
theorem q3FnExactCountCodes (os : Os) : Input.okWideB Try.checked.prog (World.plainHolding Try.checked.prog os ⟨#[], #[.slice none 0 0], []⟩) 10 ⟨#[], #[.slice none 0 0], []⟩ = true := by kernel_rfl
theorem q4FnExactCountCodes (os : Os) (H : Type) (enc : TypeId × Value → H) : Rows.fnExactCountCodesSpec.preB enc Try.checked.prog Try.f10 Rows.fnExactCountCodesRow.domain false (World.plainHolding Try.checked.prog os ⟨#[], #[.slice none 0 0], []⟩).memory #[.slice none 0 0] 8 = true := by kernel_rfl
theorem q5FnExactCountCodes (os : Os) (H : Type) (enc : TypeId × Value → H) : Rows.fnExactCountCodesSpec.sizedB enc Try.checked.prog Try.f10 false (World.plainHolding Try.checked.prog os ⟨#[], #[.slice none 0 0], []⟩).memory #[.slice none 0 0] 8 = true := by kernel_rfl
theorem witFnExactCountCodes (os : Os) (H : Type) (enc : TypeId × Value → H) : ∃ (w : World) (tape : Tape) (i : Input), w.os = os ∧ (w.forCall tape i).Shaped Try.checked.prog ∧ i.vars = [] ∧ Input.okWide Try.checked.prog (w.forCall tape i) .any w.heap.size 10 i ∧
      Rows.fnExactCountCodesSpec.pre6 enc Try.checked.prog Try.f10 Rows.fnExactCountCodesRow.domain false (w.forCall tape i).memory i.args ∧ ({} : Assume).holds Try.checked.prog (lone (Frame.enter Try.checked.prog 10 i.args .normal) [] (w.forCall tape i)) :=
    (ChangeSpec.witness6 (enc := enc) (C := Try.checked) false ⟨#[], #[.slice none 0 0], []⟩ 8 (q1FnExactCountCodes os) (q2FnExactCountCodes os) (q3FnExactCountCodes os) (q4FnExactCountCodes os H enc) (q5FnExactCountCodes os H enc))
theorem r1FnExactCountCodes : Try.checked.prog.inits.idxOf? 10 = none := by kernel_rfl
theorem r2FnExactCountCodes : ownKnob Try.checked.prog.godebug = none := Try.own0
theorem r3FnExactCountCodes : Try.checked.prog.funcs[10]? = some Try.f10 := Try.func10
theorem rdFnExactCountCodes0 : Try.prog.readableRec 58 = true ∧ 58 < Try.prog.types.size := ⟨by kernel_rfl, of_decide_eq_true (by kernel_rfl)⟩
theorem rsFnExactCountCodes : (Try.f10).resultTypes = #[4] := by kernel_rfl

set_option maxRecDepth 100000 in
theorem contractFnExactCountCodes (H : Type) (enc : TypeId × Value → H) (W : World) (base : Nat) (args : Array Value) (ds gs : List (DataW H)) (before : List MemPlace)
    (hval : ∀ (j : Nat) t v, (Try.f10).params[j]? = some t → args[j]? = some v → Value.okWide Try.prog W .any base t v)
    (hW : DataW.Whole enc Try.prog (Try.f10).params.toList Rows.fnExactCountCodesSpec.vars false W args.toList ds gs before) :
    Calls Try.prog 10 args W fun e W' => ∃ v, e = .returned v ∧ Rows.fnExactCountCodesSpec.post enc Try.prog Try.f10 false true false false W args v W' := by
  have hW' := hW
  obtain ⟨p, q, hA0, hV, rfl, hfz, hnd⟩ := hW
  have hA : DataW.TrodAll enc Try.prog W 0 (fun _ => true) true (Try.f10).params.toList args.toList ds p := hA0
  rw [Try.params10] at hA hval
  obtain ⟨v0, vs0, d0, ds0, p0, q0, hargs, rfl, rfl, h0, r0⟩ := trodAll_cons hA
  obtain ⟨rfl, rfl, rfl⟩ := trodAll_nil r0
  obtain rfl : args = #[v0] := by cases args; simp_all
  obtain ⟨a0, n0, cap0, l0, rfl, hn0, hm0, hrd0⟩ := open_flat Reply.enc 2 Try.underlying58 (by kernel_rfl) (by decide) decReply (hval 0 58 v0 rfl rfl) h0
  refine (lawFnExactCountCodes_walk a0 n0 cap0 l0 hn0 hm0 W hrd0).mono fun e W' ⟨he, hb⟩ => ?_
  subst he
  refine ⟨_, rfl, law_post Try.laidOut0 ?_ rsFnExactCountCodes Try.underlying4 rfl hW' rfl hb⟩
  rw [Try.params10]
  intro t ht
  simp only [List.mem_cons, List.not_mem_nil, or_false] at ht
  subst ht
  exact rdFnExactCountCodes0

theorem liftedFnExactCountCodes (os : Os) (started : os.Started) (H : Type) (enc : TypeId × Value → H) :
    ReturnsInHanded {} Try.checked os 10 .any (Rows.fnExactCountCodesSpec.pre6 enc Try.checked.prog Try.f10 Rows.fnExactCountCodesRow.domain false) (Rows.fnExactCountCodesSpec.post enc Try.checked.prog Try.f10 false true false false) := by
  refine returnsInHanded_of_change (C := Try.checked) r2FnExactCountCodes started r1FnExactCountCodes r3FnExactCountCodes (witFnExactCountCodes os H enc) ?_
  rw [Try.progEq0]
  intro W base args ds gs before hval hW hcnd _
  exact contractFnExactCountCodes H enc W base args ds gs before @hval hW

theorem lifted2FnExactCountCodes (os : Os) (started : os.Started) (H : Type) (enc : TypeId × Value → H) :
    ReturnsInHanded {} Try.checked os 10 .any (Rows.fnExactCountCodesSpec.pre6 enc Try.prog Try.f10 Rows.fnExactCountCodesRow.domain false) (Rows.fnExactCountCodesSpec.post enc Try.prog Try.f10 false true false false) := by
  have h := liftedFnExactCountCodes os started H enc
  rw [Try.progEq0] at h
  exact h

theorem FnExactCountCodes_holds : Rows.FnExactCountCodesSaid :=
  OpenClaim.holds_of_wide 10 Try.f10 rfl rfl rfl rfl rfl rfl rfl ⟨rfl, rfl, rfl, rfl, rfl⟩ rfl rfl rfl rfl rfl (by kernel_rfl) Try.func10 (by kernel_rfl)
    (of_decide_eq_true (by kernel_rfl)) (by unfold Func.isWrapper; first | (rw [if_pos (by decide +kernel)]; kernel_rfl) | (rw [if_neg (by decide +kernel)]; exact ⟨rfl, rfl⟩))
    (fun os started H enc _ => lifted2FnExactCountCodes os started H enc)
#print axioms FnExactCountCodes_holds

end Go.Proofs.Yteagaogpejdeoaa
