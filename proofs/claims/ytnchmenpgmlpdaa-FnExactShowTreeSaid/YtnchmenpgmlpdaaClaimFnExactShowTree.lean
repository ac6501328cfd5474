/- FnExactShowTree: for every tree the program's ShowTree answers what the reference's answers, and the argument stays. No condition. -/
import Derived.Test.YtnchmenpgmlpdaaTop
import Derived.Test.YtnchmenpgmlpdaaLawShowTree
namespace Go.Proofs.Ytnchmenpgmlpdaa
open Go.ChangeShapes Go.WideShapes Go.ChangeAt Go.RowKit Go.Deep

set_option maxRecDepth 100000 in
theorem decAmt {H : Type} {enc : TypeId × Value → H} {W : World} (n : Nat) (cs : List Value) (y : DataW H × List MemPlace) (h : DataW.trod enc Try.prog W 0 (fun _ => true) true n 97 cs = some y) : ∃ a b c : Int, cs = [.int .i64 a, .int .i64 b, .int .i64 c] := by
  obtain ⟨xs, m, _, _, hlen, hxl, hg⟩ := DataW.trod_struct Try.underlying97 h
  rw [show Try.prog.cellsOf 97 = 3 from by kernel_rfl] at hlen
  match cs, hlen with
  | [c0, c1, c2], _ =>
    have c3 : Try.prog.cellsOf 3 = 1 := by kernel_rfl
    obtain ⟨v0, rfl⟩ := fld_int (hg 0 _ rfl) (by rw [hxl]; decide) Try.underlying3 (by show List.take (Try.prog.cellsOf 3) (List.drop 0 _) = [c0]; rw [c3]; rfl)
    obtain ⟨v1, rfl⟩ := fld_int (hg 1 _ rfl) (by rw [hxl]; decide) Try.underlying3 (by show List.take (Try.prog.cellsOf 3) (List.drop 1 _) = [c1]; rw [c3]; rfl)
    obtain ⟨v2, rfl⟩ := fld_int (hg 2 _ rfl) (by rw [hxl]; decide) Try.underlying3 (by show List.take (Try.prog.cellsOf 3) (List.drop 2 _) = [c2]; rw [c3]; rfl)
    exact ⟨v0, v1, v2, rfl⟩

set_option maxRecDepth 100000 in
theorem decRes {H : Type} {enc : TypeId × Value → H} {W : World} (n : Nat) (cs : List Value) (y : DataW H × List MemPlace) (h : DataW.trod enc Try.prog W 0 (fun _ => true) true n 125 cs = some y) : ∃ x : Res, cs = x.enc := by
  obtain ⟨xs, m, _, _, hlen, hxl, hg⟩ := DataW.trod_struct Try.underlying125 h
  rw [show Try.prog.cellsOf 125 = 5 from by kernel_rfl] at hlen
  match cs, hlen with
  | [c0, c1, c2, c3, c4], _ =>
    have e1 : Try.prog.cellsOf 3 = 1 := by kernel_rfl
    have eb : Try.prog.cellsOf 4 = 1 := by kernel_rfl
    have e2 : Try.prog.cellsOf 97 = 3 := by kernel_rfl
    obtain ⟨v0, rfl⟩ := fld_bool (hg 0 _ rfl) (by rw [hxl]; decide) Try.underlying4 (by show List.take (Try.prog.cellsOf 4) (List.drop 0 _) = [c0]; rw [eb]; rfl)
    obtain ⟨v1, rfl⟩ := fld_int (hg 1 _ rfl) (by rw [hxl]; decide) Try.underlying3 (by show List.take (Try.prog.cellsOf 3) (List.drop 1 _) = [c1]; rw [e1]; rfl)
    have g2 := hg 2 _ rfl
    rw [List.getElem?_eq_getElem (by rw [hxl]; decide)] at g2
    obtain ⟨a, b, c, hc⟩ := decAmt _ _ _ g2
    change List.take (Try.prog.cellsOf 97) (List.drop 2 _) = _ at hc
    rw [e2] at hc
    simp only [List.drop_succ_cons, List.drop_zero, List.take_succ_cons, List.take_zero, List.cons.injEq, and_true] at hc
    obtain ⟨rfl, rfl, rfl⟩ := hc
    exact ⟨⟨v0, v1, ⟨a, b, c⟩⟩, rfl⟩

theorem q1FnExactShowTree (os : Os) : (World.plainHolding Try.checked.prog os ⟨#[], #[.slice none 0 0], []⟩).variablesB Try.checked.prog = true := by kernel_rfl
theorem q2FnExactShowTree (os : Os) : ((World.plainHolding Try.checked.prog os ⟨#[], #[.slice none 0 0], []⟩).heap.toList.drop Try.checked.prog.globals.size).take ((begin Try.checked.prog (fun _ _ => 0) default).world.heap.size - Try.checked.prog.globals.size) =
      (begin Try.checked.prog (fun _ _ => 0) default).world.heap.toList.drop Try.checked.prog.globals.size := by kernel_rfl
theorem q3FnExactShowTree (os : Os) : Input.okWideB Try.checked.prog (World.plainHolding Try.checked.prog os ⟨#[], #[.slice none 0 0], []⟩) 6 ⟨#[], #[.slice none 0 0], []⟩ = true := by kernel_rfl
theorem q4FnExactShowTree (os : Os) (H : Type) (enc : TypeId × Value → H) : Rows.fnExactShowTreeSpec.preB enc Try.checked.prog Try.f6 Rows.fnExactShowTreeRow.domain false (World.plainHolding Try.checked.prog os ⟨#[], #[.slice none 0 0], []⟩).memory #[.slice none 0 0] 8 = true := by kernel_rfl
theorem q5FnExactShowTree (os : Os) (H : Type) (enc : TypeId × Value → H) : Rows.fnExactShowTreeSpec.sizedB enc Try.checked.prog Try.f6 false (World.plainHolding Try.checked.prog os ⟨#[], #[.slice none 0 0], []⟩).memory #[.slice none 0 0] 8 = true := by kernel_rfl
theorem witFnExactShowTree (os : Os) (H : Type) (enc : TypeId × Value → H) : ∃ (w : World) (tape : Tape) (i : Input), w.os = os ∧ (w.forCall tape i).Shaped Try.checked.prog ∧ i.vars = [] ∧ Input.okWide Try.checked.prog (w.forCall tape i) .any w.heap.size 6 i ∧
      Rows.fnExactShowTreeSpec.pre6 enc Try.checked.prog Try.f6 Rows.fnExactShowTreeRow.domain false (w.forCall tape i).memory i.args ∧ ({} : Assume).holds Try.checked.prog (lone (Frame.enter Try.checked.prog 6 i.args .normal) [] (w.forCall tape i)) :=
    (ChangeSpec.witness6 (enc := enc) (C := Try.checked) false ⟨#[], #[.slice none 0 0], []⟩ 8 (q1FnExactShowTree os) (q2FnExactShowTree os) (q3FnExactShowTree os) (q4FnExactShowTree os H enc) (q5FnExactShowTree os H enc))
theorem r1FnExactShowTree : Try.checked.prog.inits.idxOf? 6 = none := by kernel_rfl
theorem r2FnExactShowTree : ownKnob Try.checked.prog.godebug = none := Try.own0
theorem r3FnExactShowTree : Try.checked.prog.funcs[6]? = some Try.f6 := Try.func6
theorem rdFnExactShowTree0 : Try.prog.readableRec 53 = true ∧ 53 < Try.prog.types.size := ⟨by kernel_rfl, of_decide_eq_true (by kernel_rfl)⟩
theorem rsFnExactShowTree : (Try.f6).resultTypes = #[4] := by kernel_rfl

set_option maxRecDepth 100000 in
theorem contractFnExactShowTree (H : Type) (enc : TypeId × Value → H) (W : World) (base : Nat) (args : Array Value) (ds gs : List (DataW H)) (before : List MemPlace)
    (hval : ∀ (j : Nat) t v, (Try.f6).params[j]? = some t → args[j]? = some v → Value.okWide Try.prog W .any base t v)
    (hW : DataW.Whole enc Try.prog (Try.f6).params.toList Rows.fnExactShowTreeSpec.vars false W args.toList ds gs before) :
    Calls Try.prog 6 args W fun e W' => ∃ v, e = .returned v ∧ Rows.fnExactShowTreeSpec.post enc Try.prog Try.f6 false true false false W args v W' := by
  have hW' := hW
  obtain ⟨p, q, hA0, hV, rfl, hfz, hnd⟩ := hW
  have hA : DataW.TrodAll enc Try.prog W 0 (fun _ => true) true (Try.f6).params.toList args.toList ds p := hA0
  rw [Try.params6] at hA hval
  obtain ⟨v0, vs0, d0, ds0, p0, q0, hargs, rfl, rfl, h0, r0⟩ := trodAll_cons hA
  obtain ⟨rfl, rfl, rfl⟩ := trodAll_nil r0
  obtain rfl : args = #[v0] := by cases args; simp_all
  obtain ⟨a0, n0, cap0, l0, rfl, hn0, hm0, hrd0⟩ := open_flat Res.enc 5 Try.underlying53 (by kernel_rfl) (by decide) decRes (hval 0 53 v0 rfl rfl) h0
  refine (lawFnExactShowTree_walk a0 n0 cap0 l0 hn0 hm0 W hrd0).mono fun e W' ⟨he, hb⟩ => ?_
  subst he
  refine ⟨_, rfl, law_post Try.laidOut0 ?_ rsFnExactShowTree Try.underlying4 rfl hW' rfl hb⟩
  rw [Try.params6]
  intro t ht
  simp only [List.mem_cons, List.not_mem_nil, or_false] at ht
  subst ht
  exact rdFnExactShowTree0

theorem liftedFnExactShowTree (os : Os) (started : os.Started) (H : Type) (enc : TypeId × Value → H) :
    ReturnsInHanded {} Try.checked os 6 .any (Rows.fnExactShowTreeSpec.pre6 enc Try.checked.prog Try.f6 Rows.fnExactShowTreeRow.domain false) (Rows.fnExactShowTreeSpec.post enc Try.checked.prog Try.f6 false true false false) := by
  refine returnsInHanded_of_change (C := Try.checked) r2FnExactShowTree started r1FnExactShowTree r3FnExactShowTree (witFnExactShowTree os H enc) ?_
  rw [Try.progEq0]
  intro W base args ds gs before hval hW hcnd _
  exact contractFnExactShowTree H enc W base args ds gs before @hval hW

theorem lifted2FnExactShowTree (os : Os) (started : os.Started) (H : Type) (enc : TypeId × Value → H) :
    ReturnsInHanded {} Try.checked os 6 .any (Rows.fnExactShowTreeSpec.pre6 enc Try.prog Try.f6 Rows.fnExactShowTreeRow.domain false) (Rows.fnExactShowTreeSpec.post enc Try.prog Try.f6 false true false false) := by
  have h := liftedFnExactShowTree os started H enc
  rw [Try.progEq0] at h
  exact h

theorem FnExactShowTree_holds : Rows.FnExactShowTreeSaid :=
  OpenClaim.holds_of_wide 6 Try.f6 rfl rfl rfl rfl rfl rfl rfl ⟨rfl, rfl, rfl, rfl, rfl⟩ rfl rfl rfl rfl rfl (by kernel_rfl) Try.func6 (by kernel_rfl)
    (of_decide_eq_true (by kernel_rfl)) (by unfold Func.isWrapper; first | (rw [if_pos (by decide +kernel)]; kernel_rfl) | (rw [if_neg (by decide +kernel)]; exact ⟨rfl, rfl⟩))
    (fun os started H enc _ => lifted2FnExactShowTree os started H enc)
#print axioms FnExactShowTree_holds

end Go.Proofs.Ytnchmenpgmlpdaa
