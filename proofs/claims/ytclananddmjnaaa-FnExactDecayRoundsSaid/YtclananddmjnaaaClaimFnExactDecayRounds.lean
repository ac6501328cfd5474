/- FnExactDecayRounds: for all arguments the program's DecayRounds answers what the reference's answers, in memory of its own, and the arguments stay. No condition. -/
import Derived.Test.YtclananddmjnaaaTop
import Derived.Test.YtclananddmjnaaaLawDecayRounds
namespace Go.Proofs.Ytclananddmjnaaa
open Go.ChangeShapes Go.WideShapes Go.ChangeAt Go.RowKit Go.Deep

set_option maxRecDepth 100000 in
theorem decAmt {H : Type} {enc : TypeId × Value → H} {W : World} (n : Nat) (cs : List Value) (y : DataW H × List MemPlace) (h : DataW.trod enc Try.prog W 0 (fun _ => true) true n 104 cs = some y) : ∃ a b c : Int, cs = [.int .i64 a, .int .i64 b, .int .i64 c] := by
  obtain ⟨xs, m, _, _, hlen, hxl, hg⟩ := DataW.trod_struct Try.underlying104 h
  rw [show Try.prog.cellsOf 104 = 3 from by kernel_rfl] at hlen
  match cs, hlen with
  | [c0, c1, c2], _ =>
    have c3 : Try.prog.cellsOf 3 = 1 := by kernel_rfl
    obtain ⟨v0, rfl⟩ := fld_int (hg 0 _ rfl) (by rw [hxl]; decide) Try.underlying3 (by show List.take (Try.prog.cellsOf 3) (List.drop 0 _) = [c0]; rw [c3]; rfl)
    obtain ⟨v1, rfl⟩ := fld_int (hg 1 _ rfl) (by rw [hxl]; decide) Try.underlying3 (by show List.take (Try.prog.cellsOf 3) (List.drop 1 _) = [c1]; rw [c3]; rfl)
    obtain ⟨v2, rfl⟩ := fld_int (hg 2 _ rfl) (by rw [hxl]; decide) Try.underlying3 (by show List.take (Try.prog.cellsOf 3) (List.drop 2 _) = [c2]; rw [c3]; rfl)
    exact ⟨v0, v1, v2, rfl⟩

set_option maxRecDepth 100000 in
theorem decRes {H : Type} {enc : TypeId × Value → H} {W : World} (n : Nat) (cs : List Value) (y : DataW H × List MemPlace) (h : DataW.trod enc Try.prog W 0 (fun _ => true) true n 106 cs = some y) : ∃ x : Res, cs = x.enc := by
  obtain ⟨xs, m, _, _, hlen, hxl, hg⟩ := DataW.trod_struct Try.underlying106 h
  rw [show Try.prog.cellsOf 106 = 5 from by kernel_rfl] at hlen
  match cs, hlen with
  | [c0, c1, c2, c3, c4], _ =>
    have e1 : Try.prog.cellsOf 3 = 1 := by kernel_rfl
    have eb : Try.prog.cellsOf 4 = 1 := by kernel_rfl
    have e2 : Try.prog.cellsOf 104 = 3 := by kernel_rfl
    obtain ⟨v0, rfl⟩ := fld_bool (hg 0 _ rfl) (by rw [hxl]; decide) Try.underlying4 (by show List.take (Try.prog.cellsOf 4) (List.drop 0 _) = [c0]; rw [eb]; rfl)
    obtain ⟨v1, rfl⟩ := fld_int (hg 1 _ rfl) (by rw [hxl]; decide) Try.underlying3 (by show List.take (Try.prog.cellsOf 3) (List.drop 1 _) = [c1]; rw [e1]; rfl)
    have g2 := hg 2 _ rfl
    rw [List.getElem?_eq_getElem (by rw [hxl]; decide)] at g2
    obtain ⟨a, b, c, hc⟩ := decAmt _ _ _ g2
    change List.take (Try.prog.cellsOf 104) (List.drop 2 _) = _ at hc
    rw [e2] at hc
    simp only [List.drop_succ_cons, List.drop_zero, List.take_succ_cons, List.take_zero, List.cons.injEq, and_true] at hc
    obtain ⟨rfl, rfl, rfl⟩ := hc
    exact ⟨⟨v0, v1, ⟨a, b, c⟩⟩, rfl⟩

theorem q1FnExactDecayRounds (os : Os) : (World.plainHolding Try.checked.prog os ⟨#[], #[.slice none 0 0, .int .i64 0, .int .i64 0, .int .i64 0], []⟩).variablesB Try.checked.prog = true := by kernel_rfl
theorem q2FnExactDecayRounds (os : Os) : ((World.plainHolding Try.checked.prog os ⟨#[], #[.slice none 0 0, .int .i64 0, .int .i64 0, .int .i64 0], []⟩).heap.toList.drop Try.checked.prog.globals.size).take ((begin Try.checked.prog (fun _ _ => 0) default).world.heap.size - Try.checked.prog.globals.size) =
      (begin Try.checked.prog (fun _ _ => 0) default).world.heap.toList.drop Try.checked.prog.globals.size := by kernel_rfl
theorem q3FnExactDecayRounds (os : Os) : Input.okWideB Try.checked.prog (World.plainHolding Try.checked.prog os ⟨#[], #[.slice none 0 0, .int .i64 0, .int .i64 0, .int .i64 0], []⟩) 13 ⟨#[], #[.slice none 0 0, .int .i64 0, .int .i64 0, .int .i64 0], []⟩ = true := by kernel_rfl
theorem q4FnExactDecayRounds (os : Os) (H : Type) (enc : TypeId × Value → H) : Rows.fnExactDecayRoundsSpec.preB enc Try.checked.prog Try.f13 Rows.fnExactDecayRoundsRow.domain false (World.plainHolding Try.checked.prog os ⟨#[], #[.slice none 0 0, .int .i64 0, .int .i64 0, .int .i64 0], []⟩).memory #[.slice none 0 0, .int .i64 0, .int .i64 0, .int .i64 0] 8 = true := by kernel_rfl
theorem q5FnExactDecayRounds (os : Os) (H : Type) (enc : TypeId × Value → H) : Rows.fnExactDecayRoundsSpec.sizedB enc Try.checked.prog Try.f13 false (World.plainHolding Try.checked.prog os ⟨#[], #[.slice none 0 0, .int .i64 0, .int .i64 0, .int .i64 0], []⟩).memory #[.slice none 0 0, .int .i64 0, .int .i64 0, .int .i64 0] 8 = true := by kernel_rfl
theorem witFnExactDecayRounds (os : Os) (H : Type) (enc : TypeId × Value → H) : ∃ (w : World) (tape : Tape) (i : Input), w.os = os ∧ (w.forCall tape i).Shaped Try.checked.prog ∧ i.vars = [] ∧ Input.okWide Try.checked.prog (w.forCall tape i) .any w.heap.size 13 i ∧
      Rows.fnExactDecayRoundsSpec.pre6 enc Try.checked.prog Try.f13 Rows.fnExactDecayRoundsRow.domain false (w.forCall tape i).memory i.args ∧ ({} : Assume).holds Try.checked.prog (lone (Frame.enter Try.checked.prog 13 i.args .normal) [] (w.forCall tape i)) :=
    (ChangeSpec.witness6 (enc := enc) (C := Try.checked) false ⟨#[], #[.slice none 0 0, .int .i64 0, .int .i64 0, .int .i64 0], []⟩ 8 (q1FnExactDecayRounds os) (q2FnExactDecayRounds os) (q3FnExactDecayRounds os) (q4FnExactDecayRounds os H enc) (q5FnExactDecayRounds os H enc))
theorem r1FnExactDecayRounds : Try.checked.prog.inits.idxOf? 13 = none := by kernel_rfl
theorem r2FnExactDecayRounds : ownKnob Try.checked.prog.godebug = none := Try.own0
theorem r3FnExactDecayRounds : Try.checked.prog.funcs[13]? = some Try.f13 := Try.func13
theorem rdFnExactDecayRounds0 : Try.prog.readableRec 58 = true ∧ 58 < Try.prog.types.size := ⟨by kernel_rfl, of_decide_eq_true (by kernel_rfl)⟩
theorem rdFnExactDecayRounds1 : Try.prog.readableRec 3 = true ∧ 3 < Try.prog.types.size := ⟨by kernel_rfl, of_decide_eq_true (by kernel_rfl)⟩
theorem rdFnExactDecayRounds2 : Try.prog.readableRec 3 = true ∧ 3 < Try.prog.types.size := ⟨by kernel_rfl, of_decide_eq_true (by kernel_rfl)⟩
theorem rdFnExactDecayRounds3 : Try.prog.readableRec 3 = true ∧ 3 < Try.prog.types.size := ⟨by kernel_rfl, of_decide_eq_true (by kernel_rfl)⟩
theorem rsFnExactDecayRounds : (Try.f13).resultTypes = #[4] := by kernel_rfl

set_option maxRecDepth 100000 in
theorem contractFnExactDecayRounds (H : Type) (enc : TypeId × Value → H) (W : World) (base : Nat) (args : Array Value) (ds gs : List (DataW H)) (before : List MemPlace)
    (hval : ∀ (j : Nat) t v, (Try.f13).params[j]? = some t → args[j]? = some v → Value.okWide Try.prog W .any base t v)
    (hW : DataW.Whole enc Try.prog (Try.f13).params.toList Rows.fnExactDecayRoundsSpec.vars false W args.toList ds gs before) :
    Calls Try.prog 13 args W fun e W' => ∃ v, e = .returned v ∧ Rows.fnExactDecayRoundsSpec.post enc Try.prog Try.f13 false true false false W args v W' := by
  have hW' := hW
  obtain ⟨p, q, hA0, hV, rfl, hfz, hnd⟩ := hW
  have hA : DataW.TrodAll enc Try.prog W 0 (fun _ => true) true (Try.f13).params.toList args.toList ds p := hA0
  rw [Try.params13] at hA hval
  obtain ⟨v0, vs0, d0, ds0, p0, q0, hargs, rfl, rfl, h0, r0⟩ := trodAll_cons hA
  obtain ⟨v1, vs1, d1, ds1, p1, q1, rfl, rfl, rfl, h1, r1⟩ := trodAll_cons r0
  obtain ⟨v2, vs2, d2, ds2, p2, q2, rfl, rfl, rfl, h2, r2⟩ := trodAll_cons r1
  obtain ⟨v3, vs3, d3, ds3, p3, q3, rfl, rfl, rfl, h3, r3⟩ := trodAll_cons r2
  obtain ⟨rfl, rfl, rfl⟩ := trodAll_nil r3
  obtain rfl : args = #[v0, v1, v2, v3] := by cases args; simp_all
  obtain ⟨a0, n0, cap0, l0, rfl, hn0, hm0, hrd0⟩ := open_flat Res.enc 5 Try.underlying58 (by kernel_rfl) (by decide) decRes (hval 0 58 v0 rfl rfl) h0
  obtain ⟨a1, rfl, rfl, rfl, w1⟩ := open_int Try.underlying3 (hval 1 3 v1 rfl rfl) h1
  obtain ⟨a2, rfl, rfl, rfl, w2⟩ := open_int Try.underlying3 (hval 2 3 v2 rfl rfl) h2
  obtain ⟨a3, rfl, rfl, rfl, w3⟩ := open_int Try.underlying3 (hval 3 3 v3 rfl rfl) h3
  refine (lawFnExactDecayRounds_walk a0 n0 cap0 l0 hn0 hm0 a1 w1 a2 w2 a3 w3 W hrd0).mono fun e W' ⟨he, hb⟩ => ?_
  subst he
  refine ⟨_, rfl, law_post Try.laidOut0 ?_ rsFnExactDecayRounds Try.underlying4 rfl hW' rfl hb⟩
  rw [Try.params13]
  intro t ht
  simp only [List.mem_cons, List.not_mem_nil, or_false] at ht
  rcases ht with rfl | rfl | rfl | rfl
  · exact rdFnExactDecayRounds0
  · exact rdFnExactDecayRounds1
  · exact rdFnExactDecayRounds2
  · exact rdFnExactDecayRounds3

theorem liftedFnExactDecayRounds (os : Os) (started : os.Started) (H : Type) (enc : TypeId × Value → H) :
    ReturnsInHanded {} Try.checked os 13 .any (Rows.fnExactDecayRoundsSpec.pre6 enc Try.checked.prog Try.f13 Rows.fnExactDecayRoundsRow.domain false) (Rows.fnExactDecayRoundsSpec.post enc Try.checked.prog Try.f13 false true false false) := by
  refine returnsInHanded_of_change (C := Try.checked) r2FnExactDecayRounds started r1FnExactDecayRounds r3FnExactDecayRounds (witFnExactDecayRounds os H enc) ?_
  rw [Try.progEq0]
  intro W base args ds gs before hval hW hcnd _
  exact contractFnExactDecayRounds H enc W base args ds gs before @hval hW

theorem lifted2FnExactDecayRounds (os : Os) (started : os.Started) (H : Type) (enc : TypeId × Value → H) :
    ReturnsInHanded {} Try.checked os 13 .any (Rows.fnExactDecayRoundsSpec.pre6 enc Try.prog Try.f13 Rows.fnExactDecayRoundsRow.domain false) (Rows.fnExactDecayRoundsSpec.post enc Try.prog Try.f13 false true false false) := by
  have h := liftedFnExactDecayRounds os started H enc
  rw [Try.progEq0] at h
  exact h

theorem FnExactDecayRounds_holds : Rows.FnExactDecayRoundsSaid :=
  OpenClaim.holds_of_wide 13 Try.f13 rfl rfl rfl rfl rfl rfl rfl ⟨rfl, rfl, rfl, rfl, rfl⟩ rfl rfl rfl rfl rfl (by kernel_rfl) Try.func13 (by kernel_rfl)
    (of_decide_eq_true (by kernel_rfl)) (by unfold Func.isWrapper; first | (rw [if_pos (by decide +kernel)]; kernel_rfl) | (rw [if_neg (by decide +kernel)]; exact ⟨rfl, rfl⟩))
    (fun os started H enc _ => lifted2FnExactDecayRounds os started H enc)
#print axioms FnExactDecayRounds_holds

end Go.Proofs.Ytclananddmjnaaa
