/- FnExactPeak: for all arguments the program's Peak answers what the reference's answers, and the arguments stay. No condition. -/
import Derived.Test.YteagaogpejdeoaaTop
import Derived.Test.YteagaogpejdeoaaLawPeak
namespace Go.Proofs.Yteagaogpejdeoaa
open Go.ChangeShapes Go.WideShapes Go.ChangeAt Go.RowKit Go.Deep

set_option maxRecDepth 100000 in
theorem decLease {H : Type} {enc : TypeId × Value → H} {W : World} (n : Nat) (cs : List Value) (y : DataW H × List MemPlace) (h : DataW.trod enc Try.prog W 0 (fun _ => true) true n 86 cs = some y) : ∃ x : Lease, cs = x.enc := by
  obtain ⟨xs, m, _, _, hlen, hxl, hg⟩ := DataW.trod_struct Try.underlying86 h
  rw [show Try.prog.cellsOf 86 = 3 from by kernel_rfl] at hlen
  match cs, hlen with
  | [c0, c1, c2], _ =>
    have c3 : Try.prog.cellsOf 3 = 1 := by kernel_rfl
    obtain ⟨v0, rfl⟩ := fld_int (hg 0 _ rfl) (by rw [hxl]; decide) Try.underlying3 (by show List.take (Try.prog.cellsOf 3) (List.drop 0 _) = [c0]; rw [c3]; rfl)
    obtain ⟨v1, rfl⟩ := fld_int (hg 1 _ rfl) (by rw [hxl]; decide) Try.underlying3 (by show List.take (Try.prog.cellsOf 3) (List.drop 1 _) = [c1]; rw [c3]; rfl)
    obtain ⟨v2, rfl⟩ := fld_int (hg 2 _ rfl) (by rw [hxl]; decide) Try.underlying3 (by show List.take (Try.prog.cellsOf 3) (List.drop 2 _) = [c2]; rw [c3]; rfl)
    exact ⟨⟨v0, v1, v2⟩, rfl⟩

theorem q1FnExactPeak (os : Os) : (World.plainHolding Try.checked.prog os ⟨#[], #[.slice none 0 0], []⟩).variablesB Try.checked.prog = true := by kernel_rfl
theorem q2FnExactPeak (os : Os) : ((World.plainHolding Try.checked.prog os ⟨#[], #[.slice none 0 0], []⟩).heap.toList.drop Try.checked.prog.globals.size).take ((begin Try.checked.prog (fun _ _ => 0) default).world.heap.size - Try.checked.prog.globals.size) =
      (begin Try.checked.prog (fun _ _ => 0) default).world.heap.toList.drop Try.checked.prog.globals.size := by kernel_rfl
theorem q3FnExactPeak (os : Os) : Input.okWideB Try.checked.prog (World.plainHolding Try.checked.prog os ⟨#[], #[.slice none 0 0], []⟩) 14 ⟨#[], #[.slice none 0 0], []⟩ = true := by kernel_rfl
theorem q4FnExactPeak (os : Os) (H : Type) (enc : TypeId × Value → H) : Rows.fnExactPeakSpec.preB enc Try.checked.prog Try.f14 Rows.fnExactPeakRow.domain false (World.plainHolding Try.checked.prog os ⟨#[], #[.slice none 0 0], []⟩).memory #[.slice none 0 0] 8 = true := by kernel_rfl
theorem q5FnExactPeak (os : Os) (H : Type) (enc : TypeId × Value → H) : Rows.fnExactPeakSpec.sizedB enc Try.checked.prog Try.f14 false (World.plainHolding Try.checked.prog os ⟨#[], #[.slice none 0 0], []⟩).memory #[.slice none 0 0] 8 = true := by kernel_rfl
theorem witFnExactPeak (os : Os) (H : Type) (enc : TypeId × Value → H) : ∃ (w : World) (tape : Tape) (i : Input), w.os = os ∧ (w.forCall tape i).Shaped Try.checked.prog ∧ i.vars = [] ∧ Input.okWide Try.checked.prog (w.forCall tape i) .any w.heap.size 14 i ∧
      Rows.fnExactPeakSpec.pre6 enc Try.checked.prog Try.f14 Rows.fnExactPeakRow.domain false (w.forCall tape i).memory i.args ∧ ({} : Assume).holds Try.checked.prog (lone (Frame.enter Try.checked.prog 14 i.args .normal) [] (w.forCall tape i)) :=
    (ChangeSpec.witness6 (enc := enc) (C := Try.checked) false ⟨#[], #[.slice none 0 0], []⟩ 8 (q1FnExactPeak os) (q2FnExactPeak os) (q3FnExactPeak os) (q4FnExactPeak os H enc) (q5FnExactPeak os H enc))
theorem r1FnExactPeak : Try.checked.prog.inits.idxOf? 14 = none := by kernel_rfl
theorem r2FnExactPeak : ownKnob Try.checked.prog.godebug = none := Try.own0
theorem r3FnExactPeak : Try.checked.prog.funcs[14]? = some Try.f14 := Try.func14
theorem rdFnExactPeak0 : Try.prog.readableRec 41 = true ∧ 41 < Try.prog.types.size := ⟨by kernel_rfl, of_decide_eq_true (by kernel_rfl)⟩
theorem rsFnExactPeak : (Try.f14).resultTypes = #[4] := by kernel_rfl

set_option maxRecDepth 100000 in
theorem contractFnExactPeak (H : Type) (enc : TypeId × Value → H) (W : World) (base : Nat) (args : Array Value) (ds gs : List (DataW H)) (before : List MemPlace)
    (hval : ∀ (j : Nat) t v, (Try.f14).params[j]? = some t → args[j]? = some v → Value.okWide Try.prog W .any base t v)
    (hW : DataW.Whole enc Try.prog (Try.f14).params.toList Rows.fnExactPeakSpec.vars false W args.toList ds gs before) :
    Calls Try.prog 14 args W fun e W' => ∃ v, e = .returned v ∧ Rows.fnExactPeakSpec.post enc Try.prog Try.f14 false true false false W args v W' := by
  have hW' := hW
  obtain ⟨p, q, hA0, hV, rfl, hfz, hnd⟩ := hW
  have hA : DataW.TrodAll enc Try.prog W 0 (fun _ => true) true (Try.f14).params.toList args.toList ds p := hA0
  rw [Try.params14] at hA hval
  obtain ⟨v0, vs0, d0, ds0, p0, q0, hargs, rfl, rfl, h0, r0⟩ := trodAll_cons hA
  obtain ⟨rfl, rfl, rfl⟩ := trodAll_nil r0
  obtain rfl : args = #[v0] := by cases args; simp_all
  obtain ⟨a0, n0, cap0, l0, rfl, hn0, hm0, hrd0⟩ := open_flat Lease.enc 3 Try.underlying41 (by kernel_rfl) (by decide) decLease (hval 0 41 v0 rfl rfl) h0
  refine (lawFnExactPeak_walk a0 n0 cap0 l0 hn0 hm0 W hrd0).mono fun e W' ⟨he, hb⟩ => ?_
  subst he
  refine ⟨_, rfl, law_post Try.laidOut0 ?_ rsFnExactPeak Try.underlying4 rfl hW' rfl hb⟩
  rw [Try.params14]
  intro t ht
  simp only [List.mem_cons, List.not_mem_nil, or_false] at ht
  subst ht
  exact rdFnExactPeak0

theorem liftedFnExactPeak (os : Os) (started : os.Started) (H : Type) (enc : TypeId × Value → H) :
    ReturnsInHanded {} Try.checked os 14 .any (Rows.fnExactPeakSpec.pre6 enc Try.checked.prog Try.f14 Rows.fnExactPeakRow.domain false) (Rows.fnExactPeakSpec.post enc Try.checked.prog Try.f14 false true false false) := by
  refine returnsInHanded_of_change (C := Try.checked) r2FnExactPeak started r1FnExactPeak r3FnExactPeak (witFnExactPeak os H enc) ?_
  rw [Try.progEq0]
  intro W base args ds gs before hval hW hcnd _
  exact contractFnExactPeak H enc W base args ds gs before @hval hW

theorem lifted2FnExactPeak (os : Os) (started : os.Started) (H : Type) (enc : TypeId × Value → H) :
    ReturnsInHanded {} Try.checked os 14 .any (Rows.fnExactPeakSpec.pre6 enc Try.prog Try.f14 Rows.fnExactPeakRow.domain false) (Rows.fnExactPeakSpec.post enc Try.prog Try.f14 false true false false) := by
  have h := liftedFnExactPeak os started H enc
  rw [Try.progEq0] at h
  exact h

theorem FnExactPeak_holds : Rows.FnExactPeakSaid :=
  OpenClaim.holds_of_wide 14 Try.f14 rfl rfl rfl rfl rfl rfl rfl ⟨rfl, rfl, rfl, rfl, rfl⟩ rfl rfl rfl rfl rfl (by kernel_rfl) Try.func14 (by kernel_rfl)
    (of_decide_eq_true (by kernel_rfl)) (by unfold Func.isWrapper; first | (rw [if_pos (by decide +kernel)]; kernel_rfl) | (rw [if_neg (by decide +kernel)]; exact ⟨rfl, rfl⟩))
    (fun os started H enc _ => lifted2FnExactPeak os started H enc)
#print axioms FnExactPeak_holds

end Go.Proofs.Yteagaogpejdeoaa
