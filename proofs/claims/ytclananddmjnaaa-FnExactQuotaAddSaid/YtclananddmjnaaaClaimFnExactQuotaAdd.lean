/- FnExactQuotaAdd: for all arguments the program's QuotaAdd answers what the reference's answers, in memory of its own, and the arguments stay. No condition. -/
import Derived.Test.YtclananddmjnaaaTop
import Derived.Test.YtclananddmjnaaaLawQuotaAdd
namespace Go.Proofs.Ytclananddmjnaaa
open Go.ChangeShapes Go.WideShapes Go.ChangeAt Go.RowKit Go.Deep

set_option maxRecDepth 100000 in
theorem decNode {H : Type} {enc : TypeId × Value → H} {W : World} (n : Nat) (cs : List Value) (y : DataW H × List MemPlace) (h : DataW.trod enc Try.prog W 0 (fun _ => true) true n 83 cs = some y) : ∃ x : Node, cs = x.enc := by
  obtain ⟨xs, m, _, _, hlen, hxl, hg⟩ := DataW.trod_struct Try.underlying83 h
  rw [show Try.prog.cellsOf 83 = 3 from by kernel_rfl] at hlen
  match cs, hlen with
  | [c0, c1, c2], _ =>
    have c3 : Try.prog.cellsOf 3 = 1 := by kernel_rfl
    obtain ⟨v0, rfl⟩ := fld_int (hg 0 _ rfl) (by rw [hxl]; decide) Try.underlying3 (by show List.take (Try.prog.cellsOf 3) (List.drop 0 _) = [c0]; rw [c3]; rfl)
    obtain ⟨v1, rfl⟩ := fld_int (hg 1 _ rfl) (by rw [hxl]; decide) Try.underlying3 (by show List.take (Try.prog.cellsOf 3) (List.drop 1 _) = [c1]; rw [c3]; rfl)
    obtain ⟨v2, rfl⟩ := fld_int (hg 2 _ rfl) (by rw [hxl]; decide) Try.underlying3 (by show List.take (Try.prog.cellsOf 3) (List.drop 2 _) = [c2]; rw [c3]; rfl)
    exact ⟨⟨v0, v1, v2⟩, rfl⟩

theorem q1FnExactQuotaAdd (os : Os) : (World.plainHolding Try.checked.prog os ⟨#[], #[.slice none 0 0, .int .i64 0, .int .i64 0], []⟩).variablesB Try.checked.prog = true := by kernel_rfl
theorem q2FnExactQuotaAdd (os : Os) : ((World.plainHolding Try.checked.prog os ⟨#[], #[.slice none 0 0, .int .i64 0, .int .i64 0], []⟩).heap.toList.drop Try.checked.prog.globals.size).take ((begin Try.checked.prog (fun _ _ => 0) default).world.heap.size - Try.checked.prog.globals.size) =
      (begin Try.checked.prog (fun _ _ => 0) default).world.heap.toList.drop Try.checked.prog.globals.size := by kernel_rfl
theorem q3FnExactQuotaAdd (os : Os) : Input.okWideB Try.checked.prog (World.plainHolding Try.checked.prog os ⟨#[], #[.slice none 0 0, .int .i64 0, .int .i64 0], []⟩) 7 ⟨#[], #[.slice none 0 0, .int .i64 0, .int .i64 0], []⟩ = true := by kernel_rfl
theorem q4FnExactQuotaAdd (os : Os) (H : Type) (enc : TypeId × Value → H) : Rows.fnExactQuotaAddSpec.preB enc Try.checked.prog Try.f7 Rows.fnExactQuotaAddRow.domain false (World.plainHolding Try.checked.prog os ⟨#[], #[.slice none 0 0, .int .i64 0, .int .i64 0], []⟩).memory #[.slice none 0 0, .int .i64 0, .int .i64 0] 8 = true := by kernel_rfl
theorem q5FnExactQuotaAdd (os : Os) (H : Type) (enc : TypeId × Value → H) : Rows.fnExactQuotaAddSpec.sizedB enc Try.checked.prog Try.f7 false (World.plainHolding Try.checked.prog os ⟨#[], #[.slice none 0 0, .int .i64 0, .int .i64 0], []⟩).memory #[.slice none 0 0, .int .i64 0, .int .i64 0] 8 = true := by kernel_rfl
theorem witFnExactQuotaAdd (os : Os) (H : Type) (enc : TypeId × Value → H) : ∃ (w : World) (tape : Tape) (i : Input), w.os = os ∧ (w.forCall tape i).Shaped Try.checked.prog ∧ i.vars = [] ∧ Input.okWide Try.checked.prog (w.forCall tape i) .any w.heap.size 7 i ∧
      Rows.fnExactQuotaAddSpec.pre6 enc Try.checked.prog Try.f7 Rows.fnExactQuotaAddRow.domain false (w.forCall tape i).memory i.args ∧ ({} : Assume).holds Try.checked.prog (lone (Frame.enter Try.checked.prog 7 i.args .normal) [] (w.forCall tape i)) :=
    (ChangeSpec.witness6 (enc := enc) (C := Try.checked) false ⟨#[], #[.slice none 0 0, .int .i64 0, .int .i64 0], []⟩ 8 (q1FnExactQuotaAdd os) (q2FnExactQuotaAdd os) (q3FnExactQuotaAdd os) (q4FnExactQuotaAdd os H enc) (q5FnExactQuotaAdd os H enc))
theorem r1FnExactQuotaAdd : Try.checked.prog.inits.idxOf? 7 = none := by kernel_rfl
theorem r2FnExactQuotaAdd : ownKnob Try.checked.prog.godebug = none := Try.own0
theorem r3FnExactQuotaAdd : Try.checked.prog.funcs[7]? = some Try.f7 := Try.func7
theorem rdFnExactQuotaAdd0 : Try.prog.readableRec 22 = true ∧ 22 < Try.prog.types.size := ⟨by kernel_rfl, of_decide_eq_true (by kernel_rfl)⟩
theorem rdFnExactQuotaAdd1 : Try.prog.readableRec 3 = true ∧ 3 < Try.prog.types.size := ⟨by kernel_rfl, of_decide_eq_true (by kernel_rfl)⟩
theorem rdFnExactQuotaAdd2 : Try.prog.readableRec 3 = true ∧ 3 < Try.prog.types.size := ⟨by kernel_rfl, of_decide_eq_true (by kernel_rfl)⟩
theorem rsFnExactQuotaAdd : (Try.f7).resultTypes = #[4] := by kernel_rfl

set_option maxRecDepth 100000 in
theorem contractFnExactQuotaAdd (H : Type) (enc : TypeId × Value → H) (W : World) (base : Nat) (args : Array Value) (ds gs : List (DataW H)) (before : List MemPlace)
    (hval : ∀ (j : Nat) t v, (Try.f7).params[j]? = some t → args[j]? = some v → Value.okWide Try.prog W .any base t v)
    (hW : DataW.Whole enc Try.prog (Try.f7).params.toList Rows.fnExactQuotaAddSpec.vars false W args.toList ds gs before) :
    Calls Try.prog 7 args W fun e W' => ∃ v, e = .returned v ∧ Rows.fnExactQuotaAddSpec.post enc Try.prog Try.f7 false true false false W args v W' := by
  have hW' := hW
  obtain ⟨p, q, hA0, hV, rfl, hfz, hnd⟩ := hW
  have hA : DataW.TrodAll enc Try.prog W 0 (fun _ => true) true (Try.f7).params.toList args.toList ds p := hA0
  rw [Try.params7] at hA hval
  obtain ⟨v0, vs0, d0, ds0, p0, q0, hargs, rfl, rfl, h0, r0⟩ := trodAll_cons hA
  obtain ⟨v1, vs1, d1, ds1, p1, q1, rfl, rfl, rfl, h1, r1⟩ := trodAll_cons r0
  obtain ⟨v2, vs2, d2, ds2, p2, q2, rfl, rfl, rfl, h2, r2⟩ := trodAll_cons r1
  obtain ⟨rfl, rfl, rfl⟩ := trodAll_nil r2
  obtain rfl : args = #[v0, v1, v2] := by cases args; simp_all
  obtain ⟨a0, n0, cap0, l0, rfl, hn0, hm0, hrd0⟩ := open_flat Node.enc 3 Try.underlying22 (by kernel_rfl) (by decide) decNode (hval 0 22 v0 rfl rfl) h0
  obtain ⟨a1, rfl, rfl, rfl, w1⟩ := open_int Try.underlying3 (hval 1 3 v1 rfl rfl) h1
  obtain ⟨a2, rfl, rfl, rfl, w2⟩ := open_int Try.underlying3 (hval 2 3 v2 rfl rfl) h2
  refine (lawFnExactQuotaAdd_walk a0 n0 cap0 l0 hn0 hm0 a1 w1 a2 w2 W hrd0).mono fun e W' ⟨he, hb⟩ => ?_
  subst he
  refine ⟨_, rfl, law_post Try.laidOut0 ?_ rsFnExactQuotaAdd Try.underlying4 rfl hW' rfl hb⟩
  rw [Try.params7]
  intro t ht
  simp only [List.mem_cons, List.not_mem_nil, or_false] at ht
  rcases ht with rfl | rfl | rfl
  · exact rdFnExactQuotaAdd0
  · exact rdFnExactQuotaAdd1
  · exact rdFnExactQuotaAdd2

theorem liftedFnExactQuotaAdd (os : Os) (started : os.Started) (H : Type) (enc : TypeId × Value → H) :
    ReturnsInHanded {} Try.checked os 7 .any (Rows.fnExactQuotaAddSpec.pre6 enc Try.checked.prog Try.f7 Rows.fnExactQuotaAddRow.domain false) (Rows.fnExactQuotaAddSpec.post enc Try.checked.prog Try.f7 false true false false) := by
  refine returnsInHanded_of_change (C := Try.checked) r2FnExactQuotaAdd started r1FnExactQuotaAdd r3FnExactQuotaAdd (witFnExactQuotaAdd os H enc) ?_
  rw [Try.progEq0]
  intro W base args ds gs before hval hW hcnd _
  exact contractFnExactQuotaAdd H enc W base args ds gs before @hval hW

theorem lifted2FnExactQuotaAdd (os : Os) (started : os.Started) (H : Type) (enc : TypeId × Value → H) :
    ReturnsInHanded {} Try.checked os 7 .any (Rows.fnExactQuotaAddSpec.pre6 enc Try.prog Try.f7 Rows.fnExactQuotaAddRow.domain false) (Rows.fnExactQuotaAddSpec.post enc Try.prog Try.f7 false true false false) := by
  have h := liftedFnExactQuotaAdd os started H enc
  rw [Try.progEq0] at h
  exact h

theorem FnExactQuotaAdd_holds : Rows.FnExactQuotaAddSaid :=
  OpenClaim.holds_of_wide 7 Try.f7 rfl rfl rfl rfl rfl rfl rfl ⟨rfl, rfl, rfl, rfl, rfl⟩ rfl rfl rfl rfl rfl (by kernel_rfl) Try.func7 (by kernel_rfl)
    (of_decide_eq_true (by kernel_rfl)) (by unfold Func.isWrapper; first | (rw [if_pos (by decide +kernel)]; kernel_rfl) | (rw [if_neg (by decide +kernel)]; exact ⟨rfl, rfl⟩))
    (fun os started H enc _ => lifted2FnExactQuotaAdd os started H enc)
#print axioms FnExactQuotaAdd_holds

end Go.Proofs.Ytclananddmjnaaa
