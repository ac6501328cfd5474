/- FnCycle: for every code boxes that hold each other, and that nobody else holds, go, and their pages come back. No condition. -/
import Derived.Test.YtiimdlkeikcfiaaGreatZClaimFnCycleb
import Derived.Test.YtiimdlkeikcfiaaGreatZClaimFnCyclec
import Derived.Test.YtiimdlkeikcfiaaGreatZClaimFnCycled
import Derived.Test.YtiimdlkeikcfiaaGreatZClaimFnCyclee
import Derived.Test.YtiimdlkeikcfiaaGreatZClaimFnCyclef
namespace Go.Proofs.YtiimdlkeikcfiaaGreat.V
open Go.RowKit M
set_option maxRecDepth 100000
set_option maxHeartbeats 1000000
theorem stages : ∀ a, a < 20 → stage a = true
  | 0, _ => stage_0
  | 1, _ => stage_1
  | 2, _ => stage_2
  | 3, _ => stage_3
  | 4, _ => stage_4
  | 5, _ => stage_5
  | 6, _ => stage_6
  | 7, _ => stage_7
  | 8, _ => stage_8
  | 9, _ => stage_9
  | 10, _ => stage_10
  | 11, _ => stage_11
  | 12, _ => stage_12
  | 13, _ => stage_13
  | 14, _ => stage_14
  | 15, _ => stage_15
  | 16, _ => stage_16
  | 17, _ => stage_17
  | 18, _ => stage_18
  | 19, _ => stage_19
  | n + 20, h => absurd h (by omega)
theorem FnCycle_t (l : List Int) (hb : ∀ x ∈ l, 0 ≤ x ∧ x < 256) : VC Tryz.prog 3 [.one (.ro .u8 l)] (bR true) := FnCycle_v l hb (fun a _ _ ha hb => stage_at hb (stages a ha))

end Go.Proofs.YtiimdlkeikcfiaaGreat.V

namespace Go.Proofs.YtiimdlkeikcfiaaGreat
open Go.ChangeShapes Go.WideShapes Go.ChangeAt Go.RowKit Go.Deep

/-- A code's bytes. -/
theorem decByte {H : Type} {enc : TypeId × Value → H} {W : World} (n : Nat) (cs : List Value) (y : DataW H × List MemPlace) (h : DataW.trod enc Tryz.prog W 0 (fun _ => true) true n 5 cs = some y) : ∃ x : UInt8, cs = [Value.int .u8 (x.toNat : Int)] := by
  obtain ⟨v, hv, _, hw⟩ := DataW.trod_int Tryz.underlying5 h
  simp [Lit.wf, IntKind.min, IntKind.max, IntKind.signed, IntKind.bits] at hw
  refine ⟨UInt8.ofNat v.toNat, ?_⟩
  rw [hv]
  have : ((UInt8.ofNat v.toNat).toNat : Int) = v := by
    rw [UInt8.toNat_ofNat', Nat.mod_eq_of_lt (by omega)]
    omega
  rw [this]

theorem cell_size {w : World} {b k : Nat} {u : Value} (h : w.cell? ⟨b, k, none⟩ = some u) : ∃ cells T fz, w.heap[b]? = some (.cells cells T fz) ∧ k < cells.size := by
  unfold World.cell? at h
  simp only at h
  split at h
  · rename_i c T fz hg
    refine ⟨c, T, fz, hg, ?_⟩
    have h : c[k]? = some u := by simpa using h
    exact (Array.getElem?_eq_some_iff.1 h).1
  · cases h
theorem cells_byte : (Tryz.prog).cellsOf 5 = 1 := by kernel_rfl
set_option maxRecDepth 100000 in
/-- A code opened: bytes that may be read. -/
theorem open_code {H : Type} {enc : TypeId × Value → H} {W : World} {v : Value} {d : DataW H} {p : List MemPlace} {r : Reach} {b0 : Nat} (hval : Value.okWide Tryz.prog W r b0 22 v) (h : DataW.Trod enc Tryz.prog W 0 (fun _ => true) true 22 v d p) :
    ∃ l : List Int, (∀ x ∈ l, 0 ≤ x ∧ x < 256) ∧ ∀ G0, M.Blank G0 → M.R W G0 [] (V.canA (.one (.ro .u8 l))) v := by
  obtain ⟨a0, n0, cap0, rfl⟩ := okWide_slice Tryz.underlying22 hval
  obtain ⟨fuel, hf⟩ := h
  have hC := cells_byte
  rcases open_slice Tryz.underlying22 hf with ⟨hcs, _⟩ | ⟨a, len, cap, m, n, D, Pl, hcs, _, hlc, hcm, hm, _, hi⟩
  · simp [Value.cells] at hcs
    obtain ⟨rfl, rfl, rfl⟩ := hcs
    exact ⟨[], by simp, fun G0 _ => .tr0 (by simp)⟩
  · simp [Value.cells] at hcs
    obtain ⟨rfl, rfl, rfl⟩ := hcs
    simp only [if_true] at hm
    rw [hm] at hi
    clear hm
    have hg : ∀ i, i < cap0 → ∃ x : UInt8, W.cell? (a.add i) = some (.int .u8 (x.toNat : Int)) := by
      intro i hi'
      obtain ⟨cs, h1, h2⟩ := hi i hi'
      rw [hC] at h1
      obtain ⟨_, h3, h4⟩ := World.cells?_some h1
      obtain ⟨x, rfl⟩ := decByte _ _ _ h2
      refine ⟨x, ?_⟩
      have := h4 0 (by decide)
      simpa [Addr.add] using this
    obtain ⟨X, hX⟩ := choose_lt (α := UInt8) hg
    refine ⟨(List.range n0).map fun i => ((X i).toNat : Int), fun x hx => ?_, fun G0 hB => ?_⟩
    · obtain ⟨i, _, rfl⟩ := List.mem_map.1 hx
      have := (X i).toNat_lt
      omega
    · rcases Nat.eq_zero_or_pos cap0 with e | e
      · subst e
        obtain rfl : n0 = 0 := by omega
        exact .tr0 (by simp)
      · have h0 := hX 0 e
        have hs := World.cell?_spot h0
        obtain ⟨b, o, spot⟩ := a
        have hs : spot = none := by simpa [Addr.add] using hs
        subst hs
        have hcell : ∀ i, i < cap0 → W.cell? ⟨b, o + i, none⟩ = some (.int .u8 ((X i).toNat : Int)) := fun i hi => by
          have := hX i hi
          simp only [Addr.add] at this
          by_cases z : i = 0
          · subst z; simpa using this
          · simpa [z] using this
        obtain ⟨cells, T, fz, k1, _⟩ := cell_size (hcell 0 e)
        have k2 : o + cap0 ≤ cells.size := by
          obtain ⟨cells', T', fz', k3, k4⟩ := cell_size (hcell (cap0 - 1) (by omega))
          rw [k1] at k3
          injection k3 with k3
          injection k3 with k3 _ _
          subst k3
          omega
        have hlen : ((List.range n0).map fun i => ((X i).toNat : Int)).length = n0 := by simp
        show M.R W G0 [] (.tr false 1 ((List.range n0).map fun i => ((X i).toNat : Int)).length (V.encRow false .u8 ((List.range n0).map fun i => ((X i).toNat : Int)))) _
        rw [hlen]
        refine .tr (fun i j => .int .u8 ((X i).toNat : Int)) (fun e => by cases e) (fun _ => hB.1 b) ⟨cells, T, fz, k1, by omega, fun e => by cases e⟩ hlc hcm (fun i j hi hj => ?_) (fun i j hi hj => rfl) (fun i j hi hj => ?_)
        · obtain rfl : j = 0 := by omega
          simpa using hcell i (by omega)
        · obtain rfl : j = 0 := by omega
          have e : V.encRow false .u8 ((List.range n0).map fun i => ((X i).toNat : Int)) i 0 = .v (.int .u8 (((List.range n0).map fun i => ((X i).toNat : Int)).getD i (0 : Int))) := rfl
          rw [e]
          have e2 : ((List.range n0).map fun i => ((X i).toNat : Int)).getD i (0 : Int) = ((X i).toNat : Int) := by
            rw [List.getD_eq_getElem?_getD, List.getElem?_map, List.getElem?_range hi]
            rfl
          rw [e2]
          exact .v

theorem q1FnCycle (os : Os) : (World.plainHolding Tryz.checked.prog os ⟨#[], #[.slice none 0 0], []⟩).variablesB Tryz.checked.prog = true := by kernel_rfl
theorem q2FnCycle (os : Os) : ((World.plainHolding Tryz.checked.prog os ⟨#[], #[.slice none 0 0], []⟩).heap.toList.drop Tryz.checked.prog.globals.size).take ((begin Tryz.checked.prog (fun _ _ => 0) default).world.heap.size - Tryz.checked.prog.globals.size) =
      (begin Tryz.checked.prog (fun _ _ => 0) default).world.heap.toList.drop Tryz.checked.prog.globals.size := by kernel_rfl
theorem q3FnCycle (os : Os) : Input.okWideB Tryz.checked.prog (World.plainHolding Tryz.checked.prog os ⟨#[], #[.slice none 0 0], []⟩) 3 ⟨#[], #[.slice none 0 0], []⟩ = true := by kernel_rfl
theorem q4FnCycle (os : Os) (H : Type) (enc : TypeId × Value → H) : Rows.fnCycleSpec.preB enc Tryz.checked.prog Tryz.f3 Rows.fnCycleRow.domain false (World.plainHolding Tryz.checked.prog os ⟨#[], #[.slice none 0 0], []⟩).memory #[.slice none 0 0] 8 = true := by kernel_rfl
theorem q5FnCycle (os : Os) (H : Type) (enc : TypeId × Value → H) : Rows.fnCycleSpec.sizedB enc Tryz.checked.prog Tryz.f3 false (World.plainHolding Tryz.checked.prog os ⟨#[], #[.slice none 0 0], []⟩).memory #[.slice none 0 0] 8 = true := by kernel_rfl
theorem witFnCycle (os : Os) (H : Type) (enc : TypeId × Value → H) : ∃ (w : World) (tape : Tape) (i : Input), w.os = os ∧ (w.forCall tape i).Shaped Tryz.checked.prog ∧ i.vars = [] ∧ Input.okWide Tryz.checked.prog (w.forCall tape i) .any w.heap.size 3 i ∧
      Rows.fnCycleSpec.pre6 enc Tryz.checked.prog Tryz.f3 Rows.fnCycleRow.domain false (w.forCall tape i).memory i.args ∧ ({} : Assume).holds Tryz.checked.prog (lone (Frame.enter Tryz.checked.prog 3 i.args .normal) [] (w.forCall tape i)) :=
    (ChangeSpec.witness6 (enc := enc) (C := Tryz.checked) false ⟨#[], #[.slice none 0 0], []⟩ 8 (q1FnCycle os) (q2FnCycle os) (q3FnCycle os) (q4FnCycle os H enc) (q5FnCycle os H enc))
theorem r1FnCycle : Tryz.checked.prog.inits.idxOf? 3 = none := by kernel_rfl
theorem r2FnCycle : ownKnob Tryz.checked.prog.godebug = none := Tryz.own0
theorem r3FnCycle : Tryz.checked.prog.funcs[3]? = some Tryz.f3 := Tryz.func3
theorem rdFnCycle0 : Tryz.prog.readableRec 22 = true ∧ 22 < Tryz.prog.types.size := ⟨by kernel_rfl, of_decide_eq_true (by kernel_rfl)⟩
theorem rsFnCycle : (Tryz.f3).resultTypes = #[4] := by kernel_rfl

set_option maxRecDepth 100000 in
theorem contractFnCycle (H : Type) (enc : TypeId × Value → H) (W : World) (base : Nat) (args : Array Value) (ds gs : List (DataW H)) (before : List MemPlace)
    (hval : ∀ (j : Nat) t v, (Tryz.f3).params[j]? = some t → args[j]? = some v → Value.okWide Tryz.prog W .any base t v)
    (hW : DataW.Whole enc Tryz.prog (Tryz.f3).params.toList Rows.fnCycleSpec.vars false W args.toList ds gs before) :
    Calls Tryz.prog 3 args W fun e W' => ∃ v, e = .returned v ∧ Rows.fnCycleSpec.post enc Tryz.prog Tryz.f3 false true false false W args v W' := by
  have hW' := hW
  obtain ⟨p, q, hA0, hV, rfl, hfz, hnd⟩ := hW
  have hA : DataW.TrodAll enc Tryz.prog W 0 (fun _ => true) true (Tryz.f3).params.toList args.toList ds p := hA0
  rw [Tryz.params3] at hA hval
  obtain ⟨v0, vs0, d0, ds0, p0, q0, hargs, rfl, rfl, h0, r0⟩ := trodAll_cons hA
  obtain ⟨rfl, rfl, rfl⟩ := trodAll_nil r0
  obtain rfl : args = #[v0] := by cases args; simp_all
  obtain ⟨l0, hl0, hR0⟩ := open_code (hval 0 22 v0 rfl rfl) h0
  refine ((V.FnCycle_t l0 hl0).run W #[v0] ⟨fun _ => [], fun _ => 0, fun _ => 0, fun _ => false⟩ ⟨fun _ => rfl, fun _ => rfl⟩ rfl (fun i m hm => ?_)).mono fun e W' ⟨c, G', he, hb, _, hr⟩ => ?_
  · match i, hm with
    | 0, hm =>
      injection hm with hm
      subst hm
      exact ⟨v0, rfl, hR0 _ ⟨fun _ => rfl, fun _ => rfl⟩⟩
  have hc : c = .bool true := by
    have hr : M.RC W' G' [0] (.v (.bool true)) c := hr
    cases hr
    rfl
  subst hc
  subst he
  refine ⟨_, rfl, law_post Tryz.laidOut0 ?_ rsFnCycle Tryz.underlying4 rfl hW' rfl hb⟩
  rw [Tryz.params3]
  intro t ht
  simp only [List.mem_cons, List.not_mem_nil, or_false] at ht
  subst ht
  exact rdFnCycle0

theorem liftedFnCycle (os : Os) (started : os.Started) (H : Type) (enc : TypeId × Value → H) :
    ReturnsInHanded {} Tryz.checked os 3 .any (Rows.fnCycleSpec.pre6 enc Tryz.checked.prog Tryz.f3 Rows.fnCycleRow.domain false) (Rows.fnCycleSpec.post enc Tryz.checked.prog Tryz.f3 false true false false) := by
  refine returnsInHanded_of_change (C := Tryz.checked) r2FnCycle started r1FnCycle r3FnCycle (witFnCycle os H enc) ?_
  rw [Tryz.progEq0]
  intro W base args ds gs before hval hW hcnd _
  exact contractFnCycle H enc W base args ds gs before @hval hW

theorem lifted2FnCycle (os : Os) (started : os.Started) (H : Type) (enc : TypeId × Value → H) :
    ReturnsInHanded {} Tryz.checked os 3 .any (Rows.fnCycleSpec.pre6 enc Tryz.prog Tryz.f3 Rows.fnCycleRow.domain false) (Rows.fnCycleSpec.post enc Tryz.prog Tryz.f3 false true false false) := by
  have h := liftedFnCycle os started H enc
  rw [Tryz.progEq0] at h
  exact h

theorem FnCycle_holds : Rows.FnCycleSaid :=
  OpenClaim.holds_of_wide 3 Tryz.f3 rfl rfl rfl rfl rfl rfl rfl ⟨rfl, rfl, rfl, rfl, rfl⟩ rfl rfl rfl rfl rfl (by kernel_rfl) Tryz.func3 (by kernel_rfl)
    (of_decide_eq_true (by kernel_rfl)) (by unfold Func.isWrapper; first | (rw [if_pos (by decide +kernel)]; kernel_rfl) | (rw [if_neg (by decide +kernel)]; exact ⟨rfl, rfl⟩))
    (fun os started H enc _ => lifted2FnCycle os started H enc)
#print axioms FnCycle_holds

end Go.Proofs.YtiimdlkeikcfiaaGreat
