/- FnLeases: for every code no moment needs more pages than the peak of the leases that are drawn, what fits never runs short, and cost is pages by time. No condition. -/
import Derived.Test.YtclananddmjnaaaTop
import Derived.Test.YtclananddmjnaaaLawFnLeases
namespace Go.Proofs.Ytclananddmjnaaa
open Go.ChangeShapes Go.WideShapes Go.ChangeAt Go.RowKit Go.Deep

theorem bytes_flat : ∀ l : List UInt8, l.flatMap (fun b : UInt8 => [Value.int .u8 (b.toNat : Int)]) = byteCells l
  | [] => rfl
  | x :: l => by rw [List.flatMap_cons, bytes_flat l]; rfl
/-- A code's bytes. -/
theorem decByte {H : Type} {enc : TypeId × Value → H} {W : World} (n : Nat) (cs : List Value) (y : DataW H × List MemPlace) (h : DataW.trod enc Try.prog W 0 (fun _ => true) true n 5 cs = some y) : ∃ x : UInt8, cs = [Value.int .u8 (x.toNat : Int)] := by
  obtain ⟨v, hv, _, hw⟩ := DataW.trod_int Try.underlying5 h
  simp [Lit.wf, IntKind.min, IntKind.max, IntKind.signed, IntKind.bits] at hw
  refine ⟨UInt8.ofNat v.toNat, ?_⟩
  rw [hv]
  have : ((UInt8.ofNat v.toNat).toNat : Int) = v := by
    rw [UInt8.toNat_ofNat', Nat.mod_eq_of_lt (by omega)]
    omega
  rw [this]

theorem q1FnLeases (os : Os) : (World.plainHolding Try.checked.prog os ⟨#[], #[.slice none 0 0], []⟩).variablesB Try.checked.prog = true := by kernel_rfl
theorem q2FnLeases (os : Os) : ((World.plainHolding Try.checked.prog os ⟨#[], #[.slice none 0 0], []⟩).heap.toList.drop Try.checked.prog.globals.size).take ((begin Try.checked.prog (fun _ _ => 0) default).world.heap.size - Try.checked.prog.globals.size) =
      (begin Try.checked.prog (fun _ _ => 0) default).world.heap.toList.drop Try.checked.prog.globals.size := by kernel_rfl
theorem q3FnLeases (os : Os) : Input.okWideB Try.checked.prog (World.plainHolding Try.checked.prog os ⟨#[], #[.slice none 0 0], []⟩) 6 ⟨#[], #[.slice none 0 0], []⟩ = true := by kernel_rfl
theorem q4FnLeases (os : Os) (H : Type) (enc : TypeId × Value → H) : Rows.fnLeasesSpec.preB enc Try.checked.prog Try.f6 Rows.fnLeasesRow.domain false (World.plainHolding Try.checked.prog os ⟨#[], #[.slice none 0 0], []⟩).memory #[.slice none 0 0] 8 = true := by kernel_rfl
theorem q5FnLeases (os : Os) (H : Type) (enc : TypeId × Value → H) : Rows.fnLeasesSpec.sizedB enc Try.checked.prog Try.f6 false (World.plainHolding Try.checked.prog os ⟨#[], #[.slice none 0 0], []⟩).memory #[.slice none 0 0] 8 = true := by kernel_rfl
theorem witFnLeases (os : Os) (H : Type) (enc : TypeId × Value → H) : ∃ (w : World) (tape : Tape) (i : Input), w.os = os ∧ (w.forCall tape i).Shaped Try.checked.prog ∧ i.vars = [] ∧ Input.okWide Try.checked.prog (w.forCall tape i) .any w.heap.size 6 i ∧
      Rows.fnLeasesSpec.pre6 enc Try.checked.prog Try.f6 Rows.fnLeasesRow.domain false (w.forCall tape i).memory i.args ∧ ({} : Assume).holds Try.checked.prog (lone (Frame.enter Try.checked.prog 6 i.args .normal) [] (w.forCall tape i)) :=
    (ChangeSpec.witness6 (enc := enc) (C := Try.checked) false ⟨#[], #[.slice none 0 0], []⟩ 8 (q1FnLeases os) (q2FnLeases os) (q3FnLeases os) (q4FnLeases os H enc) (q5FnLeases os H enc))
theorem r1FnLeases : Try.checked.prog.inits.idxOf? 6 = none := by kernel_rfl
theorem r2FnLeases : ownKnob Try.checked.prog.godebug = none := Try.own0
theorem r3FnLeases : Try.checked.prog.funcs[6]? = some Try.f6 := Try.func6
theorem rdFnLeases0 : Try.prog.readableRec 44 = true ∧ 44 < Try.prog.types.size := ⟨by kernel_rfl, of_decide_eq_true (by kernel_rfl)⟩
theorem rsFnLeases : (Try.f6).resultTypes = #[4] := by kernel_rfl

set_option maxRecDepth 100000 in
theorem contractFnLeases (H : Type) (enc : TypeId × Value → H) (W : World) (base : Nat) (args : Array Value) (ds gs : List (DataW H)) (before : List MemPlace)
    (hval : ∀ (j : Nat) t v, (Try.f6).params[j]? = some t → args[j]? = some v → Value.okWide Try.prog W .any base t v)
    (hW : DataW.Whole enc Try.prog (Try.f6).params.toList Rows.fnLeasesSpec.vars false W args.toList ds gs before) :
    Calls Try.prog 6 args W fun e W' => ∃ v, e = .returned v ∧ Rows.fnLeasesSpec.post enc Try.prog Try.f6 false true false false W args v W' := by
  have hW' := hW
  obtain ⟨p, q, hA0, hV, rfl, hfz, hnd⟩ := hW
  have hA : DataW.TrodAll enc Try.prog W 0 (fun _ => true) true (Try.f6).params.toList args.toList ds p := hA0
  rw [Try.params6] at hA hval
  obtain ⟨v0, vs0, d0, ds0, p0, q0, hargs, rfl, rfl, h0, r0⟩ := trodAll_cons hA
  obtain ⟨rfl, rfl, rfl⟩ := trodAll_nil r0
  obtain rfl : args = #[v0] := by cases args; simp_all
  obtain ⟨a0, n0, cap0, l0, rfl, hn0, hm0, hrd0⟩ := open_flat (fun b : UInt8 => [Value.int .u8 (b.toNat : Int)]) 1 Try.underlying44 (by kernel_rfl) (by decide) decByte (hval 0 44 v0 rfl rfl) h0
  rw [bytes_flat] at hrd0
  refine (lawFnLeases_walk a0 n0 cap0 l0 hn0 hm0 W hrd0).mono fun e W' ⟨he, hb⟩ => ?_
  subst he
  refine ⟨_, rfl, law_post Try.laidOut0 ?_ rsFnLeases Try.underlying4 rfl hW' rfl hb⟩
  rw [Try.params6]
  intro t ht
  simp only [List.mem_cons, List.not_mem_nil, or_false] at ht
  subst ht
  exact rdFnLeases0

theorem liftedFnLeases (os : Os) (started : os.Started) (H : Type) (enc : TypeId × Value → H) :
    ReturnsInHanded {} Try.checked os 6 .any (Rows.fnLeasesSpec.pre6 enc Try.checked.prog Try.f6 Rows.fnLeasesRow.domain false) (Rows.fnLeasesSpec.post enc Try.checked.prog Try.f6 false true false false) := by
  refine returnsInHanded_of_change (C := Try.checked) r2FnLeases started r1FnLeases r3FnLeases (witFnLeases os H enc) ?_
  rw [Try.progEq0]
  intro W base args ds gs before hval hW hcnd _
  exact contractFnLeases H enc W base args ds gs before @hval hW

theorem lifted2FnLeases (os : Os) (started : os.Started) (H : Type) (enc : TypeId × Value → H) :
    ReturnsInHanded {} Try.checked os 6 .any (Rows.fnLeasesSpec.pre6 enc Try.prog Try.f6 Rows.fnLeasesRow.domain false) (Rows.fnLeasesSpec.post enc Try.prog Try.f6 false true false false) := by
  have h := liftedFnLeases os started H enc
  rw [Try.progEq0] at h
  exact h

theorem FnLeases_holds : Rows.FnLeasesSaid :=
  OpenClaim.holds_of_wide 6 Try.f6 rfl rfl rfl rfl rfl rfl rfl ⟨rfl, rfl, rfl, rfl, rfl⟩ rfl rfl rfl rfl rfl (by kernel_rfl) Try.func6 (by kernel_rfl)
    (of_decide_eq_true (by kernel_rfl)) (by unfold Func.isWrapper; first | (rw [if_pos (by decide +kernel)]; kernel_rfl) | (rw [if_neg (by decide +kernel)]; exact ⟨rfl, rfl⟩))
    (fun os started H enc _ => lifted2FnLeases os started H enc)
#print axioms FnLeases_holds

end Go.Proofs.Ytclananddmjnaaa
