/- FnExactCanReach: for all arguments the program's CanReach answers what the reference's answers, and the arguments stay. No condition. -/
import Derived.Test.YteagaogpejdeoaaTop
import Derived.Test.YteagaogpejdeoaaLawCanReach
namespace Go.Proofs.Yteagaogpejdeoaa
open Go.ChangeShapes Go.WideShapes Go.ChangeAt Go.RowKit Go.Deep

set_option maxRecDepth 100000 in
theorem decChan {H : Type} {enc : TypeId × Value → H} {W : World} (n : Nat) (cs : List Value) (y : DataW H × List MemPlace) (h : DataW.trod enc Try.prog W 0 (fun _ => true) true n 92 cs = some y) : ∃ x : Chan, cs = x.enc := by
  obtain ⟨xs, m, _, _, hlen, hxl, hg⟩ := DataW.trod_struct Try.underlying92 h
  rw [show Try.prog.cellsOf 92 = 2 from by kernel_rfl] at hlen
  match cs, hlen with
  | [c0, c1], _ =>
    have c3 : Try.prog.cellsOf 3 = 1 := by kernel_rfl
    obtain ⟨v0, rfl⟩ := fld_int (hg 0 _ rfl) (by rw [hxl]; decide) Try.underlying3 (by show List.take (Try.prog.cellsOf 3) (List.drop 0 _) = [c0]; rw [c3]; rfl)
    obtain ⟨v1, rfl⟩ := fld_int (hg 1 _ rfl) (by rw [hxl]; decide) Try.underlying3 (by show List.take (Try.prog.cellsOf 3) (List.drop 1 _) = [c1]; rw [c3]; rfl)
    exact ⟨⟨v0, v1⟩, rfl⟩

theorem q1FnExactCanReach (os : Os) : (World.plainHolding Try.checked.prog os ⟨#[], #[.int .i64 0, .slice none 0 0, .int .i64 0, .int .i64 0], []⟩).variablesB Try.checked.prog = true := by kernel_rfl
theorem q2FnExactCanReach (os : Os) : ((World.plainHolding Try.checked.prog os ⟨#[], #[.int .i64 0, .slice none 0 0, .int .i64 0, .int .i64 0], []⟩).heap.toList.drop Try.checked.prog.globals.size).take ((begin Try.checked.prog (fun _ _ => 0) default).world.heap.size - Try.checked.prog.globals.size) =
      (begin Try.checked.prog (fun _ _ => 0) default).world.heap.toList.drop Try.checked.prog.globals.size := by kernel_rfl
theorem q3FnExactCanReach (os : Os) : Input.okWideB Try.checked.prog (World.plainHolding Try.checked.prog os ⟨#[], #[.int .i64 0, .slice none 0 0, .int .i64 0, .int .i64 0], []⟩) 7 ⟨#[], #[.int .i64 0, .slice none 0 0, .int .i64 0, .int .i64 0], []⟩ = true := by kernel_rfl
theorem q4FnExactCanReach (os : Os) (H : Type) (enc : TypeId × Value → H) : Rows.fnExactCanReachSpec.preB enc Try.checked.prog Try.f7 Rows.fnExactCanReachRow.domain false (World.plainHolding Try.checked.prog os ⟨#[], #[.int .i64 0, .slice none 0 0, .int .i64 0, .int .i64 0], []⟩).memory #[.int .i64 0, .slice none 0 0, .int .i64 0, .int .i64 0] 8 = true := by kernel_rfl
theorem q5FnExactCanReach (os : Os) (H : Type) (enc : TypeId × Value → H) : Rows.fnExactCanReachSpec.sizedB enc Try.checked.prog Try.f7 false (World.plainHolding Try.checked.prog os ⟨#[], #[.int .i64 0, .slice none 0 0, .int .i64 0, .int .i64 0], []⟩).memory #[.int .i64 0, .slice none 0 0, .int .i64 0, .int .i64 0] 8 = true := by kernel_rfl
theorem witFnExactCanReach (os : Os) (H : Type) (enc : TypeId × Value → H) : ∃ (w : World) (tape : Tape) (i : Input), w.os = os ∧ (w.forCall tape i).Shaped Try.checked.prog ∧ i.vars = [] ∧ Input.okWide Try.checked.prog (w.forCall tape i) .any w.heap.size 7 i ∧
      Rows.fnExactCanReachSpec.pre6 enc Try.checked.prog Try.f7 Rows.fnExactCanReachRow.domain false (w.forCall tape i).memory i.args ∧ ({} : Assume).holds Try.checked.prog (lone (Frame.enter Try.checked.prog 7 i.args .normal) [] (w.forCall tape i)) :=
    (ChangeSpec.witness6 (enc := enc) (C := Try.checked) false ⟨#[], #[.int .i64 0, .slice none 0 0, .int .i64 0, .int .i64 0], []⟩ 8 (q1FnExactCanReach os) (q2FnExactCanReach os) (q3FnExactCanReach os) (q4FnExactCanReach os H enc) (q5FnExactCanReach os H enc))
theorem r1FnExactCanReach : Try.checked.prog.inits.idxOf? 7 = none := by kernel_rfl
theorem r2FnExactCanReach : ownKnob Try.checked.prog.godebug = none := Try.own0
theorem r3FnExactCanReach : Try.checked.prog.funcs[7]? = some Try.f7 := Try.func7
theorem rdFnExactCanReach0 : Try.prog.readableRec 3 = true ∧ 3 < Try.prog.types.size := ⟨by kernel_rfl, of_decide_eq_true (by kernel_rfl)⟩
theorem rdFnExactCanReach1 : Try.prog.readableRec 48 = true ∧ 48 < Try.prog.types.size := ⟨by kernel_rfl, of_decide_eq_true (by kernel_rfl)⟩
theorem rdFnExactCanReach2 : Try.prog.readableRec 3 = true ∧ 3 < Try.prog.types.size := ⟨by kernel_rfl, of_decide_eq_true (by kernel_rfl)⟩
theorem rdFnExactCanReach3 : Try.prog.readableRec 3 = true ∧ 3 < Try.prog.types.size := ⟨by kernel_rfl, of_decide_eq_true (by kernel_rfl)⟩
theorem rsFnExactCanReach : (Try.f7).resultTypes = #[4] := by kernel_rfl

set_option maxRecDepth 100000 in
theorem contractFnExactCanReach (H : Type) (enc : TypeId × Value → H) (W : World) (base : Nat) (args : Array Value) (ds gs : List (DataW H)) (before : List MemPlace)
    (hval : ∀ (j : Nat) t v, (Try.f7).params[j]? = some t → args[j]? = some v → Value.okWide Try.prog W .any base t v)
    (hW : DataW.Whole enc Try.prog (Try.f7).params.toList Rows.fnExactCanReachSpec.vars false W args.toList ds gs before) :
    Calls Try.prog 7 args W fun e W' => ∃ v, e = .returned v ∧ Rows.fnExactCanReachSpec.post enc Try.prog Try.f7 false true false false W args v W' := by
  have hW' := hW
  obtain ⟨p, q, hA0, hV, rfl, hfz, hnd⟩ := hW
  have hA : DataW.TrodAll enc Try.prog W 0 (fun _ => true) true (Try.f7).params.toList args.toList ds p := hA0
  rw [Try.params7] at hA hval
  obtain ⟨v0, vs0, d0, ds0, p0, q0, hargs, rfl, rfl, h0, r0⟩ := trodAll_cons hA
  obtain ⟨v1, vs1, d1, ds1, p1, q1, rfl, rfl, rfl, h1, r1⟩ := trodAll_cons r0
  obtain ⟨v2, vs2, d2, ds2, p2, q2, rfl, rfl, rfl, h2, r2⟩ := trodAll_cons r1
  obtain ⟨v3, vs3, d3, ds3, p3, q3, rfl, rfl, rfl, h3, r3⟩ := trodAll_cons r2
  obtain ⟨rfl, rfl, rfl⟩ := trodAll_nil r3
  obtain rfl : args = #[v0, v1, v2, v3] := by cases args; simp_all
  obtain ⟨a0, rfl, rfl, rfl, w0⟩ := open_int Try.underlying3 (hval 0 3 v0 rfl rfl) h0
  obtain ⟨a1, n1, cap1, l1, rfl, hn1, hm1, hrd1⟩ := open_flat Chan.enc 2 Try.underlying48 (by kernel_rfl) (by decide) decChan (hval 1 48 v1 rfl rfl) h1
  obtain ⟨a2, rfl, rfl, rfl, w2⟩ := open_int Try.underlying3 (hval 2 3 v2 rfl rfl) h2
  obtain ⟨a3, rfl, rfl, rfl, w3⟩ := open_int Try.underlying3 (hval 3 3 v3 rfl rfl) h3
  refine (lawFnExactCanReach_walk a0 w0 a1 n1 cap1 l1 hn1 hm1 a2 w2 a3 w3 W hrd1).mono fun e W' ⟨he, hb⟩ => ?_
  subst he
  refine ⟨_, rfl, law_post Try.laidOut0 ?_ rsFnExactCanReach Try.underlying4 rfl hW' rfl hb⟩
  rw [Try.params7]
  intro t ht
  simp only [List.mem_cons, List.not_mem_nil, or_false] at ht
  rcases ht with rfl | rfl | rfl | rfl
  · exact rdFnExactCanReach0
  · exact rdFnExactCanReach1
  · exact rdFnExactCanReach2
  · exact rdFnExactCanReach3

theorem liftedFnExactCanReach (os : Os) (started : os.Started) (H : Type) (enc : TypeId × Value → H) :
    ReturnsInHanded {} Try.checked os 7 .any (Rows.fnExactCanReachSpec.pre6 enc Try.checked.prog Try.f7 Rows.fnExactCanReachRow.domain false) (Rows.fnExactCanReachSpec.post enc Try.checked.prog Try.f7 false true false false) := by
  refine returnsInHanded_of_change (C := Try.checked) r2FnExactCanReach started r1FnExactCanReach r3FnExactCanReach (witFnExactCanReach os H enc) ?_
  rw [Try.progEq0]
  intro W base args ds gs before hval hW hcnd _
  exact contractFnExactCanReach H enc W base args ds gs before @hval hW

theorem lifted2FnExactCanReach (os : Os) (started : os.Started) (H : Type) (enc : TypeId × Value → H) :
    ReturnsInHanded {} Try.checked os 7 .any (Rows.fnExactCanReachSpec.pre6 enc Try.prog Try.f7 Rows.fnExactCanReachRow.domain false) (Rows.fnExactCanReachSpec.post enc Try.prog Try.f7 false true false false) := by
  have h := liftedFnExactCanReach os started H enc
  rw [Try.progEq0] at h
  exact h

theorem FnExactCanReach_holds : Rows.FnExactCanReachSaid :=
  OpenClaim.holds_of_wide 7 Try.f7 rfl rfl rfl rfl rfl rfl rfl ⟨rfl, rfl, rfl, rfl, rfl⟩ rfl rfl rfl rfl rfl (by kernel_rfl) Try.func7 (by kernel_rfl)
    (of_decide_eq_true (by kernel_rfl)) (by unfold Func.isWrapper; first | (rw [if_pos (by decide +kernel)]; kernel_rfl) | (rw [if_neg (by decide +kernel)]; exact ⟨rfl, rfl⟩))
    (fun os started H enc _ => lifted2FnExactCanReach os started H enc)
#print axioms FnExactCanReach_holds

end Go.Proofs.Yteagaogpejdeoaa
