/- FnExactClosure: for every number and every list of channels the program's Closure answers what the reference's answers, in memory of its own, and the arguments stay. No condition. -/
import Derived.Test.YtclananddmjnaaaTop
import Derived.Test.YtclananddmjnaaaLawClosure
namespace Go.Proofs.Ytclananddmjnaaa
open Go.ChangeShapes Go.WideShapes Go.ChangeAt Go.RowKit Go.Deep

set_option maxRecDepth 100000 in
theorem decChan {H : Type} {enc : TypeId × Value → H} {W : World} (n : Nat) (cs : List Value) (y : DataW H × List MemPlace) (h : DataW.trod enc Try.prog W 0 (fun _ => true) true n 93 cs = some y) : ∃ x : Chan, cs = x.enc := by
  obtain ⟨xs, m, _, _, hlen, hxl, hg⟩ := DataW.trod_struct Try.underlying93 h
  rw [show Try.prog.cellsOf 93 = 2 from by kernel_rfl] at hlen
  match cs, hlen with
  | [c0, c1], _ =>
    have c3 : Try.prog.cellsOf 3 = 1 := by kernel_rfl
    obtain ⟨v0, rfl⟩ := fld_int (hg 0 _ rfl) (by rw [hxl]; decide) Try.underlying3 (by show List.take (Try.prog.cellsOf 3) (List.drop 0 _) = [c0]; rw [c3]; rfl)
    obtain ⟨v1, rfl⟩ := fld_int (hg 1 _ rfl) (by rw [hxl]; decide) Try.underlying3 (by show List.take (Try.prog.cellsOf 3) (List.drop 1 _) = [c1]; rw [c3]; rfl)
    exact ⟨⟨v0, v1⟩, rfl⟩

theorem q1FnExactClosure (os : Os) : (World.plainHolding Try.checked.prog os ⟨#[], #[.int .i64 0, .slice none 0 0], []⟩).variablesB Try.checked.prog = true := by kernel_rfl
theorem q2FnExactClosure (os : Os) : ((World.plainHolding Try.checked.prog os ⟨#[], #[.int .i64 0, .slice none 0 0], []⟩).heap.toList.drop Try.checked.prog.globals.size).take ((begin Try.checked.prog (fun _ _ => 0) default).world.heap.size - Try.checked.prog.globals.size) =
      (begin Try.checked.prog (fun _ _ => 0) default).world.heap.toList.drop Try.checked.prog.globals.size := by kernel_rfl
theorem q3FnExactClosure (os : Os) : Input.okWideB Try.checked.prog (World.plainHolding Try.checked.prog os ⟨#[], #[.int .i64 0, .slice none 0 0], []⟩) 5 ⟨#[], #[.int .i64 0, .slice none 0 0], []⟩ = true := by kernel_rfl
theorem q4FnExactClosure (os : Os) (H : Type) (enc : TypeId × Value → H) : Rows.fnExactClosureSpec.preB enc Try.checked.prog Try.f5 Rows.fnExactClosureRow.domain false (World.plainHolding Try.checked.prog os ⟨#[], #[.int .i64 0, .slice none 0 0], []⟩).memory #[.int .i64 0, .slice none 0 0] 8 = true := by kernel_rfl
theorem q5FnExactClosure (os : Os) (H : Type) (enc : TypeId × Value → H) : Rows.fnExactClosureSpec.sizedB enc Try.checked.prog Try.f5 false (World.plainHolding Try.checked.prog os ⟨#[], #[.int .i64 0, .slice none 0 0], []⟩).memory #[.int .i64 0, .slice none 0 0] 8 = true := by kernel_rfl
theorem witFnExactClosure (os : Os) (H : Type) (enc : TypeId × Value → H) : ∃ (w : World) (tape : Tape) (i : Input), w.os = os ∧ (w.forCall tape i).Shaped Try.checked.prog ∧ i.vars = [] ∧ Input.okWide Try.checked.prog (w.forCall tape i) .any w.heap.size 5 i ∧
      Rows.fnExactClosureSpec.pre6 enc Try.checked.prog Try.f5 Rows.fnExactClosureRow.domain false (w.forCall tape i).memory i.args ∧ ({} : Assume).holds Try.checked.prog (lone (Frame.enter Try.checked.prog 5 i.args .normal) [] (w.forCall tape i)) :=
    (ChangeSpec.witness6 (enc := enc) (C := Try.checked) false ⟨#[], #[.int .i64 0, .slice none 0 0], []⟩ 8 (q1FnExactClosure os) (q2FnExactClosure os) (q3FnExactClosure os) (q4FnExactClosure os H enc) (q5FnExactClosure os H enc))
theorem r1FnExactClosure : Try.checked.prog.inits.idxOf? 5 = none := by kernel_rfl
theorem r2FnExactClosure : ownKnob Try.checked.prog.godebug = none := Try.own0
theorem r3FnExactClosure : Try.checked.prog.funcs[5]? = some Try.f5 := Try.func5
theorem rdFnExactClosure0 : Try.prog.readableRec 3 = true ∧ 3 < Try.prog.types.size := ⟨by kernel_rfl, of_decide_eq_true (by kernel_rfl)⟩
theorem rdFnExactClosure1 : Try.prog.readableRec 36 = true ∧ 36 < Try.prog.types.size := ⟨by kernel_rfl, of_decide_eq_true (by kernel_rfl)⟩
theorem rsFnExactClosure : (Try.f5).resultTypes = #[4] := by kernel_rfl

set_option maxRecDepth 100000 in
theorem contractFnExactClosure (H : Type) (enc : TypeId × Value → H) (W : World) (base : Nat) (args : Array Value) (ds gs : List (DataW H)) (before : List MemPlace)
    (hval : ∀ (j : Nat) t v, (Try.f5).params[j]? = some t → args[j]? = some v → Value.okWide Try.prog W .any base t v)
    (hW : DataW.Whole enc Try.prog (Try.f5).params.toList Rows.fnExactClosureSpec.vars false W args.toList ds gs before) :
    Calls Try.prog 5 args W fun e W' => ∃ v, e = .returned v ∧ Rows.fnExactClosureSpec.post enc Try.prog Try.f5 false true false false W args v W' := by
  have hW' := hW
  obtain ⟨p, q, hA0, hV, rfl, hfz, hnd⟩ := hW
  have hA : DataW.TrodAll enc Try.prog W 0 (fun _ => true) true (Try.f5).params.toList args.toList ds p := hA0
  rw [Try.params5] at hA hval
  obtain ⟨v0, vs0, d0, ds0, p0, q0, hargs, rfl, rfl, h0, r0⟩ := trodAll_cons hA
  obtain ⟨v1, vs1, d1, ds1, p1, q1, rfl, rfl, rfl, h1, r1⟩ := trodAll_cons r0
  obtain ⟨rfl, rfl, rfl⟩ := trodAll_nil r1
  obtain rfl : args = #[v0, v1] := by cases args; simp_all
  obtain ⟨a0, rfl, rfl, rfl, w0⟩ := open_int Try.underlying3 (hval 0 3 v0 rfl rfl) h0
  obtain ⟨a1, n1, cap1, l1, rfl, hn1, hm1, hrd1⟩ := open_flat Chan.enc 2 Try.underlying36 (by kernel_rfl) (by decide) decChan (hval 1 36 v1 rfl rfl) h1
  refine (lawFnExactClosure_walk a0 w0 a1 n1 cap1 l1 hn1 hm1 W hrd1).mono fun e W' ⟨he, hb⟩ => ?_
  subst he
  refine ⟨_, rfl, law_post Try.laidOut0 ?_ rsFnExactClosure Try.underlying4 rfl hW' rfl hb⟩
  rw [Try.params5]
  intro t ht
  simp only [List.mem_cons, List.not_mem_nil, or_false] at ht
  rcases ht with rfl | rfl
  · exact rdFnExactClosure0
  · exact rdFnExactClosure1

theorem liftedFnExactClosure (os : Os) (started : os.Started) (H : Type) (enc : TypeId × Value → H) :
    ReturnsInHanded {} Try.checked os 5 .any (Rows.fnExactClosureSpec.pre6 enc Try.checked.prog Try.f5 Rows.fnExactClosureRow.domain false) (Rows.fnExactClosureSpec.post enc Try.checked.prog Try.f5 false true false false) := by
  refine returnsInHanded_of_change (C := Try.checked) r2FnExactClosure started r1FnExactClosure r3FnExactClosure (witFnExactClosure os H enc) ?_
  rw [Try.progEq0]
  intro W base args ds gs before hval hW hcnd _
  exact contractFnExactClosure H enc W base args ds gs before @hval hW

theorem lifted2FnExactClosure (os : Os) (started : os.Started) (H : Type) (enc : TypeId × Value → H) :
    ReturnsInHanded {} Try.checked os 5 .any (Rows.fnExactClosureSpec.pre6 enc Try.prog Try.f5 Rows.fnExactClosureRow.domain false) (Rows.fnExactClosureSpec.post enc Try.prog Try.f5 false true false false) := by
  have h := liftedFnExactClosure os started H enc
  rw [Try.progEq0] at h
  exact h

theorem FnExactClosure_holds : Rows.FnExactClosureSaid :=
  OpenClaim.holds_of_wide 5 Try.f5 rfl rfl rfl rfl rfl rfl rfl ⟨rfl, rfl, rfl, rfl, rfl⟩ rfl rfl rfl rfl rfl (by kernel_rfl) Try.func5 (by kernel_rfl)
    (of_decide_eq_true (by kernel_rfl)) (by unfold Func.isWrapper; first | (rw [if_pos (by decide +kernel)]; kernel_rfl) | (rw [if_neg (by decide +kernel)]; exact ⟨rfl, rfl⟩))
    (fun os started H enc _ => lifted2FnExactClosure os started H enc)
#print axioms FnExactClosure_holds

end Go.Proofs.Ytclananddmjnaaa
