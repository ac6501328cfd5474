/- FnDecay: for every code what decays comes to the root, nothing is lost, and at a rate above nought no hoard stays. No condition. -/
import Derived.Test.YtcahncppkolkbaaTop
import Derived.Test.YtcahncppkolkbaaLawFnDecay
namespace Go.Proofs.Ytcahncppkolkbaa
open Go.ChangeShapes Go.WideShapes Go.ChangeAt Go.RowKit Go.Deep

theorem bytes_flat : ∀ l : List UInt8, l.flatMap (fun b : UInt8 => [Value.int .u8 (b.toNat : Int)]) = byteCells l
  | [] => rfl
  | x :: l => by rw [List.flatMap_cons, bytes_flat l]; rfl
/-- A code's bytes. -/
theorem decByte {H : Type} {enc : TypeId × Value → H} {W : World} (n : Nat) (cs : List Value) (y : DataW H × List MemPlace) (h : DataW.trod enc Try.prog W 0 (fun _ => true) true n 5 cs = some y) : ∃ x : UInt8, cs = [Value.int .u8 (x.toNat : Int)] := by
  obtain ⟨v, hv, _, hw⟩ := DataW.trod_int Try.underlying5 h
  simp [Lit.wf, IntKind.min, IntKind.max, IntKind.signed, IntKind.bits] at hw
  refine ⟨UInt8.ofNat v.toNat, ?_⟩
  rw [hv]
  have : ((UInt8.ofNat v.toNat).toNat : Int) = v := by
    rw [UInt8.toNat_ofNat', Nat.mod_eq_of_lt (by omega)]
    omega
  rw [this]

theorem q1FnDecay (os : Os) : (World.plainHolding Try.checked.prog os ⟨#[], #[.slice none 0 0], []⟩).variablesB Try.checked.prog = true := by kernel_rfl
theorem q2FnDecay (os : Os) : ((World.plainHolding Try.checked.prog os ⟨#[], #[.slice none 0 0], []⟩).heap.toList.drop Try.checked.prog.globals.size).take ((begin Try.checked.prog (fun _ _ => 0) default).world.heap.size - Try.checked.prog.globals.size) =
      (begin Try.checked.prog (fun _ _ => 0) default).world.heap.toList.drop Try.checked.prog.globals.size := by kernel_rfl
theorem q3FnDecay (os : Os) : Input.okWideB Try.checked.prog (World.plainHolding Try.checked.prog os ⟨#[], #[.slice none 0 0], []⟩) 3 ⟨#[], #[.slice none 0 0], []⟩ = true := by kernel_rfl
theorem q4FnDecay (os : Os) (H : Type) (enc : TypeId × Value → H) : Rows.fnDecaySpec.preB enc Try.checked.prog Try.f3 Rows.fnDecayRow.domain false (World.plainHolding Try.checked.prog os ⟨#[], #[.slice none 0 0], []⟩).memory #[.slice none 0 0] 8 = true := by kernel_rfl
theorem q5FnDecay (os : Os) (H : Type) (enc : TypeId × Value → H) : Rows.fnDecaySpec.sizedB enc Try.checked.prog Try.f3 false (World.plainHolding Try.checked.prog os ⟨#[], #[.slice none 0 0], []⟩).memory #[.slice none 0 0] 8 = true := by kernel_rfl
theorem witFnDecay (os : Os) (H : Type) (enc : TypeId × Value → H) : ∃ (w : World) (tape : Tape) (i : Input), w.os = os ∧ (w.forCall tape i).Shaped Try.checked.prog ∧ i.vars = [] ∧ Input.okWide Try.checked.prog (w.forCall tape i) .any w.heap.size 3 i ∧
      Rows.fnDecaySpec.pre6 enc Try.checked.prog Try.f3 Rows.fnDecayRow.domain false (w.forCall tape i).memory i.args ∧ ({} : Assume).holds Try.checked.prog (lone (Frame.enter Try.checked.prog 3 i.args .normal) [] (w.forCall tape i)) :=
    (ChangeSpec.witness6 (enc := enc) (C := Try.checked) false ⟨#[], #[.slice none 0 0], []⟩ 8 (q1FnDecay os) (q2FnDecay os) (q3FnDecay os) (q4FnDecay os H enc) (q5FnDecay os H enc))
theorem r1FnDecay : Try.checked.prog.inits.idxOf? 3 = none := by kernel_rfl
theorem r2FnDecay : ownKnob Try.checked.prog.godebug = none := Try.own0
theorem r3FnDecay : Try.checked.prog.funcs[3]? = some Try.f3 := Try.func3
theorem rdFnDecay0 : Try.prog.readableRec 22 = true ∧ 22 < Try.prog.types.size := ⟨by kernel_rfl, of_decide_eq_true (by kernel_rfl)⟩
theorem rsFnDecay : (Try.f3).resultTypes = #[4] := by kernel_rfl

set_option maxRecDepth 100000 in
theorem contractFnDecay (H : Type) (enc : TypeId × Value → H) (W : World) (base : Nat) (args : Array Value) (ds gs : List (DataW H)) (before : List MemPlace)
    (hval : ∀ (j : Nat) t v, (Try.f3).params[j]? = some t → args[j]? = some v → Value.okWide Try.prog W .any base t v)
    (hW : DataW.Whole enc Try.prog (Try.f3).params.toList Rows.fnDecaySpec.vars false W args.toList ds gs before) :
    Calls Try.prog 3 args W fun e W' => ∃ v, e = .returned v ∧ Rows.fnDecaySpec.post enc Try.prog Try.f3 false true false false W args v W' := by
  have hW' := hW
  obtain ⟨p, q, hA0, hV, rfl, hfz, hnd⟩ := hW
  have hA : DataW.TrodAll enc Try.prog W 0 (fun _ => true) true (Try.f3).params.toList args.toList ds p := hA0
  rw [Try.params3] at hA hval
  obtain ⟨v0, vs0, d0, ds0, p0, q0, hargs, rfl, rfl, h0, r0⟩ := trodAll_cons hA
  obtain ⟨rfl, rfl, rfl⟩ := trodAll_nil r0
  obtain rfl : args = #[v0] := by cases args; simp_all
  obtain ⟨a0, n0, cap0, l0, rfl, hn0, hm0, hrd0⟩ := open_flat (fun b : UInt8 => [Value.int .u8 (b.toNat : Int)]) 1 Try.underlying22 (by kernel_rfl) (by decide) decByte (hval 0 22 v0 rfl rfl) h0
  rw [bytes_flat] at hrd0
  refine (lawFnDecay_walk a0 n0 cap0 l0 hn0 hm0 W hrd0).mono fun e W' ⟨he, hb⟩ => ?_
  subst he
  refine ⟨_, rfl, law_post Try.laidOut0 ?_ rsFnDecay Try.underlying4 rfl hW' rfl hb⟩
  rw [Try.params3]
  intro t ht
  simp only [List.mem_cons, List.not_mem_nil, or_false] at ht
  subst ht
  exact rdFnDecay0

theorem liftedFnDecay (os : Os) (started : os.Started) (H : Type) (enc : TypeId × Value → H) :
    ReturnsInHanded {} Try.checked os 3 .any (Rows.fnDecaySpec.pre6 enc Try.checked.prog Try.f3 Rows.fnDecayRow.domain false) (Rows.fnDecaySpec.post enc Try.checked.prog Try.f3 false true false false) := by
  refine returnsInHanded_of_change (C := Try.checked) r2FnDecay started r1FnDecay r3FnDecay (witFnDecay os H enc) ?_
  rw [Try.progEq0]
  intro W base args ds gs before hval hW hcnd _
  exact contractFnDecay H enc W base args ds gs before @hval hW

theorem lifted2FnDecay (os : Os) (started : os.Started) (H : Type) (enc : TypeId × Value → H) :
    ReturnsInHanded {} Try.checked os 3 .any (Rows.fnDecaySpec.pre6 enc Try.prog Try.f3 Rows.fnDecayRow.domain false) (Rows.fnDecaySpec.post enc Try.prog Try.f3 false true false false) := by
  have h := liftedFnDecay os started H enc
  rw [Try.progEq0] at h
  exact h

theorem FnDecay_holds : Rows.FnDecaySaid :=
  OpenClaim.holds_of_wide 3 Try.f3 rfl rfl rfl rfl rfl rfl rfl ⟨rfl, rfl, rfl, rfl, rfl⟩ rfl rfl rfl rfl rfl (by kernel_rfl) Try.func3 (by kernel_rfl)
    (of_decide_eq_true (by kernel_rfl)) (by unfold Func.isWrapper; first | (rw [if_pos (by decide +kernel)]; kernel_rfl) | (rw [if_neg (by decide +kernel)]; exact ⟨rfl, rfl⟩))
    (fun os started H enc _ => lifted2FnDecay os started H enc)
#print axioms FnDecay_holds

end Go.Proofs.Ytcahncppkolkbaa
