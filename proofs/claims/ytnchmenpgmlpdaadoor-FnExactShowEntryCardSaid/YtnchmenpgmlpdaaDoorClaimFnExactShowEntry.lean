/- FnExactShowEntry: for every entry the program's ShowEntry answers what the reference's answers; the tied card. -/
import Derived.Test.YtnchmenpgmlpdaaDoorTop
import Derived.Test.YtnchmenpgmlpdaaDoorLawShowEntry
import Derived.Test.YtnchmenpgmlpdaaDoorTie
import Derived.Test.YtnchmenpgmlpdaaDoorCards
import Derived.ChangeVars
import Derived.LaidLaws
import Derived.LaidHandle
import Derived.Lib.LaidTab
import Derived.Lib.LaidIn
import Derived.Stop.LaidErr
import Derived.SevenTiedAt
namespace Go.Proofs.YtnchmenpgmlpdaaDoor
open Go Go.ChangeShapes Go.WideShapes Go.ChangeAt Go.RowKit Go.Deep Go.Lib

set_option maxRecDepth 100000 in
theorem decCall {H : Type} {enc : TypeId × Value → H} {W : World} (n : Nat) (cs : List Value) (y : DataW H × List MemPlace) (h : DataW.trod enc Tryd.prog W 0 (fun _ => true) true n 23 cs = some y) : ∃ a b c d e f : Int, cs = [.int .i64 a, .int .i64 b, .int .i64 c, .int .i64 d, .int .i64 e, .int .i64 f] := by
  obtain ⟨xs, m, _, _, hlen, hxl, hg⟩ := DataW.trod_struct Tryd.underlying23 h
  rw [show Tryd.prog.cellsOf 23 = 6 from by kernel_rfl] at hlen
  match cs, hlen with
  | [c0, c1, c2, c3, c4, c5], _ =>
    have c1' : Tryd.prog.cellsOf 3 = 1 := by kernel_rfl
    obtain ⟨v0, rfl⟩ := fld_int (hg 0 _ rfl) (by rw [hxl]; decide) Tryd.underlying3 (by show List.take (Tryd.prog.cellsOf 3) (List.drop 0 _) = [c0]; rw [c1']; rfl)
    obtain ⟨v1, rfl⟩ := fld_int (hg 1 _ rfl) (by rw [hxl]; decide) Tryd.underlying3 (by show List.take (Tryd.prog.cellsOf 3) (List.drop 1 _) = [c1]; rw [c1']; rfl)
    obtain ⟨v2, rfl⟩ := fld_int (hg 2 _ rfl) (by rw [hxl]; decide) Tryd.underlying3 (by show List.take (Tryd.prog.cellsOf 3) (List.drop 2 _) = [c2]; rw [c1']; rfl)
    obtain ⟨v3, rfl⟩ := fld_int (hg 3 _ rfl) (by rw [hxl]; decide) Tryd.underlying3 (by show List.take (Tryd.prog.cellsOf 3) (List.drop 3 _) = [c3]; rw [c1']; rfl)
    obtain ⟨v4, rfl⟩ := fld_int (hg 4 _ rfl) (by rw [hxl]; decide) Tryd.underlying3 (by show List.take (Tryd.prog.cellsOf 3) (List.drop 4 _) = [c4]; rw [c1']; rfl)
    obtain ⟨v5, rfl⟩ := fld_int (hg 5 _ rfl) (by rw [hxl]; decide) Tryd.underlying3 (by show List.take (Tryd.prog.cellsOf 3) (List.drop 5 _) = [c5]; rw [c1']; rfl)
    exact ⟨v0, v1, v2, v3, v4, v5, rfl⟩

set_option maxRecDepth 100000 in
theorem decEntry {H : Type} {enc : TypeId × Value → H} {W : World} (n : Nat) (cs : List Value) (y : DataW H × List MemPlace) (h : DataW.trod enc Tryd.prog W 0 (fun _ => true) true n 25 cs = some y) : ∃ x : Entry, cs = x.cells.toList := by
  obtain ⟨xs, m, _, _, hlen, hxl, hg⟩ := DataW.trod_struct Tryd.underlying25 h
  rw [show Tryd.prog.cellsOf 25 = 9 from by kernel_rfl] at hlen
  match cs, hlen with
  | [c0, c1, c2, c3, c4, c5, c6, c7, c8], _ =>
    have c1' : Tryd.prog.cellsOf 3 = 1 := by kernel_rfl
    have c2' : Tryd.prog.cellsOf 23 = 6 := by kernel_rfl
    obtain ⟨v0, rfl⟩ := fld_int (hg 0 _ rfl) (by rw [hxl]; decide) Tryd.underlying3 (by show List.take (Tryd.prog.cellsOf 3) (List.drop 0 _) = [c0]; rw [c1']; rfl)
    obtain ⟨v1, rfl⟩ := fld_int (hg 1 _ rfl) (by rw [hxl]; decide) Tryd.underlying3 (by show List.take (Tryd.prog.cellsOf 3) (List.drop 1 _) = [c1]; rw [c1']; rfl)
    obtain ⟨v2, rfl⟩ := fld_int (hg 2 _ rfl) (by rw [hxl]; decide) Tryd.underlying3 (by show List.take (Tryd.prog.cellsOf 3) (List.drop 2 _) = [c2]; rw [c1']; rfl)
    have g3 := hg 3 _ rfl
    rw [List.getElem?_eq_getElem (by rw [hxl]; decide)] at g3
    obtain ⟨a, b, c, d, e, f, hc⟩ := decCall _ _ _ g3
    change List.take (Tryd.prog.cellsOf 23) (List.drop 3 _) = _ at hc
    rw [c2'] at hc
    simp only [List.drop_succ_cons, List.drop_zero, List.take_succ_cons, List.take_zero, List.cons.injEq, and_true] at hc
    obtain ⟨rfl, rfl, rfl, rfl, rfl, rfl⟩ := hc
    exact ⟨⟨v0, v1, v2, a, b, c, d, e, f⟩, rfl⟩

set_option maxRecDepth 100000 in
theorem openAggEntry {H : Type} {enc : TypeId × Value → H} {W : World} {r : Reach} {b0 : Nat} {v : Value} {d : DataW H} {p : List MemPlace} (hval : Value.okWide Tryd.prog W r b0 25 v) (h : DataW.Trod enc Tryd.prog W 0 (fun _ => true) true 25 v d p) :
    ∃ x : Entry, v = .agg x.cells := by
  obtain ⟨cs, rfl, hsz⟩ := okWide_struct Tryd.underlying25 hval
  rw [show Tryd.prog.cellsOf 25 = 9 from by kernel_rfl] at hsz
  obtain ⟨fuel, hf⟩ := h
  obtain ⟨x, hx⟩ := decEntry _ _ _ hf
  refine ⟨x, ?_⟩
  rw [show Value.cells (.agg cs) = cs from rfl] at hx
  rw [show cs = cs.toList.toArray from by simp, hx]


def tab6FnExactShowEntry : Array Value := #[.int .u8 0, .int .u8 1, .int .u8 28, .int .u8 2, .int .u8 29, .int .u8 14, .int .u8 24, .int .u8 3, .int .u8 30, .int .u8 22, .int .u8 20, .int .u8 15, .int .u8 25, .int .u8 17, .int .u8 4, .int .u8 8, .int .u8 31, .int .u8 27, .int .u8 13, .int .u8 23, .int .u8 21, .int .u8 19, .int .u8 16, .int .u8 7, .int .u8 26, .int .u8 12, .int .u8 18, .int .u8 6, .int .u8 11, .int .u8 5, .int .u8 10, .int .u8 9]
def tab7FnExactShowEntry : Array Value := #[.int .u8 0, .int .u8 1, .int .u8 56, .int .u8 2, .int .u8 57, .int .u8 49, .int .u8 28, .int .u8 3, .int .u8 61, .int .u8 58, .int .u8 42, .int .u8 50, .int .u8 38, .int .u8 29, .int .u8 17, .int .u8 4, .int .u8 62, .int .u8 47, .int .u8 59, .int .u8 36, .int .u8 45, .int .u8 43, .int .u8 51, .int .u8 22, .int .u8 53, .int .u8 39, .int .u8 33, .int .u8 30, .int .u8 24, .int .u8 18, .int .u8 12, .int .u8 5, .int .u8 63, .int .u8 55, .int .u8 48, .int .u8 27, .int .u8 60, .int .u8 41, .int .u8 37, .int .u8 16, .int .u8 46, .int .u8 35, .int .u8 44, .int .u8 21, .int .u8 52, .int .u8 32, .int .u8 23, .int .u8 11, .int .u8 54, .int .u8 26, .int .u8 40, .int .u8 15, .int .u8 34, .int .u8 20, .int .u8 31, .int .u8 10, .int .u8 25, .int .u8 14, .int .u8 19, .int .u8 9, .int .u8 13, .int .u8 8, .int .u8 7, .int .u8 6]
def tab3FnExactShowEntry : Array Value := #[.int .u64 1, .int .u64 10, .int .u64 100, .int .u64 1000, .int .u64 10000, .int .u64 100000, .int .u64 1000000, .int .u64 10000000, .int .u64 100000000, .int .u64 1000000000, .int .u64 10000000000, .int .u64 100000000000, .int .u64 1000000000000, .int .u64 10000000000000, .int .u64 100000000000000, .int .u64 1000000000000000, .int .u64 10000000000000000, .int .u64 100000000000000000, .int .u64 1000000000000000000, .int .u64 10000000000000000000]
/-- The settled world, the tables laid. -/
noncomputable def laidWorldFnExactShowEntry (os : Os) : World :=
  let w0 := World.plainHolding Tryd.checked.prog os ⟨#[], #[], []⟩
  { w0 with heap := (((w0.heap.modify 6 fun
      | .cells _ t frozen => .cells tab6FnExactShowEntry t frozen
      | o => o).modify 7 fun
      | .cells _ t frozen => .cells tab7FnExactShowEntry t frozen
      | o => o).modify 3 fun
      | .cells _ t frozen => .cells tab3FnExactShowEntry t frozen
      | o => o) }
theorem laidMetFnExactShowEntry (os : Os) (args : Array Value) : laidMetH Tryd.checked.prog Rows.fnExactShowEntryRow.laid ((laidWorldFnExactShowEntry os).forCall (fun _ _ => 0) ⟨#[], args, []⟩).memory :=
  laidMetH_of_parts (LaidIn.of_run [6, 7, 3] 8 (by kernel_rfl) (by kernel_rfl) (by kernel_rfl) (by kernel_rfl)).met (by kernel_rfl)
theorem witAFnExactShowEntry (os : Os) : ((laidWorldFnExactShowEntry os).forCall (fun _ _ => 0) ⟨#[], #[.agg #[.int .i64 0, .int .i64 0, .int .i64 0, .int .i64 0, .int .i64 0, .int .i64 0, .int .i64 0, .int .i64 0, .int .i64 0]], []⟩).variablesB Tryd.checked.prog = true := by kernel_rfl
theorem witBFnExactShowEntry (os : Os) : (((laidWorldFnExactShowEntry os).forCall (fun _ _ => 0) ⟨#[], #[.agg #[.int .i64 0, .int .i64 0, .int .i64 0, .int .i64 0, .int .i64 0, .int .i64 0, .int .i64 0, .int .i64 0, .int .i64 0]], []⟩).heap.toList.drop Tryd.checked.prog.globals.size).take ((begin Tryd.checked.prog (fun _ _ => 0) default).world.heap.size - Tryd.checked.prog.globals.size) =
      (begin Tryd.checked.prog (fun _ _ => 0) default).world.heap.toList.drop Tryd.checked.prog.globals.size := by kernel_rfl
theorem witCFnExactShowEntry (os : Os) : Input.okWideB Tryd.checked.prog ((laidWorldFnExactShowEntry os).forCall (fun _ _ => 0) ⟨#[], #[.agg #[.int .i64 0, .int .i64 0, .int .i64 0, .int .i64 0, .int .i64 0, .int .i64 0, .int .i64 0, .int .i64 0, .int .i64 0]], []⟩) 3 ⟨#[], #[.agg #[.int .i64 0, .int .i64 0, .int .i64 0, .int .i64 0, .int .i64 0, .int .i64 0, .int .i64 0, .int .i64 0, .int .i64 0]], []⟩ = true := by kernel_rfl
theorem witDFnExactShowEntry (os : Os) (H : Type) (enc : TypeId × Value → H) : Rows.fnExactShowEntrySpec.preB enc Tryd.checked.prog Tryd.f3 Rows.fnExactShowEntryRow.domain false ((laidWorldFnExactShowEntry os).forCall (fun _ _ => 0) ⟨#[], #[.agg #[.int .i64 0, .int .i64 0, .int .i64 0, .int .i64 0, .int .i64 0, .int .i64 0, .int .i64 0, .int .i64 0, .int .i64 0]], []⟩).memory #[.agg #[.int .i64 0, .int .i64 0, .int .i64 0, .int .i64 0, .int .i64 0, .int .i64 0, .int .i64 0, .int .i64 0, .int .i64 0]] 8 = true := by kernel_rfl
theorem witEFnExactShowEntry (os : Os) (H : Type) (enc : TypeId × Value → H) : Rows.fnExactShowEntrySpec.sizedB enc Tryd.checked.prog Tryd.f3 false ((laidWorldFnExactShowEntry os).forCall (fun _ _ => 0) ⟨#[], #[.agg #[.int .i64 0, .int .i64 0, .int .i64 0, .int .i64 0, .int .i64 0, .int .i64 0, .int .i64 0, .int .i64 0, .int .i64 0]], []⟩).memory #[.agg #[.int .i64 0, .int .i64 0, .int .i64 0, .int .i64 0, .int .i64 0, .int .i64 0, .int .i64 0, .int .i64 0, .int .i64 0]] 8 = true := by kernel_rfl
theorem r1FnExactShowEntry : Tryd.checked.prog.inits.idxOf? 3 = none := by kernel_rfl
theorem rdFnExactShowEntry0 : Tryd.prog.readableRec 25 = true ∧ 25 < Tryd.prog.types.size := ⟨by kernel_rfl, of_decide_eq_true (by kernel_rfl)⟩
theorem rsFnExactShowEntry : (Tryd.f3).resultTypes = #[4] := by kernel_rfl
theorem powFnExactShowEntry : (Rows.laid_internal_strconv_uint64pow10 : DataW Unit) = Lib.tabData .u64 Lib.pow10Tab := by kernel_rfl
/-- From the row's condition: the table of powers. -/
theorem tabFnExactShowEntry {W : World} (h : laidMetH Tryd.prog Rows.fnExactShowEntryRow.laid W) : Lib.TabIs Tryd.prog W "internal/strconv.uint64pow10" .u64 Lib.pow10Tab := by
  have h' : laidMet Tryd.prog Rows.fnExactShowEntryRow.laid W := h
  have h2 := laidMet.tail (laidMet.tail h')
  rw [powFnExactShowEntry] at h2
  exact Lib.tabIs_of_head (g := 3) (t := 93) (e := 79) (n := 20) (by kernel_rfl) (by kernel_rfl) Tryd.underlying93 Tryd.underlying79 (by kernel_rfl) (by kernel_rfl) h2

set_option maxRecDepth 100000 in
theorem contractFnExactShowEntry (H : Type) (enc : TypeId × Value → H) (W : World) (base : Nat) (args : Array Value) (ds gs : List (DataW H)) (before : List MemPlace)
    (hval : ∀ (j : Nat) t v, (Tryd.f3).params[j]? = some t → args[j]? = some v → Value.okWide Tryd.prog W .any base t v)
    (hW : DataW.Whole enc Tryd.prog (Tryd.f3).params.toList Rows.fnExactShowEntrySpec.vars false W args.toList ds gs before) (hL : laidMetH Tryd.prog Rows.fnExactShowEntryRow.laid W) :
    Calls Tryd.prog 3 args W fun e W' => ∃ v, e = .returned v ∧ Rows.fnExactShowEntrySpec.post enc Tryd.prog Tryd.f3 false true false false W args v W' := by
  have hW' := hW
  obtain ⟨p, q, hA0, hV, rfl, hfz, hnd⟩ := hW
  have hA : DataW.TrodAll enc Tryd.prog W 0 (fun _ => true) true (Tryd.f3).params.toList args.toList ds p := hA0
  rw [Tryd.params3] at hA hval
  obtain ⟨v0, vs0, d0, ds0, p0, q0, hargs, rfl, rfl, h0, r0⟩ := trodAll_cons hA
  obtain ⟨rfl, rfl, rfl⟩ := trodAll_nil r0
  obtain rfl : args = #[v0] := by cases args; simp_all
  obtain ⟨x0, rfl⟩ := openAggEntry (hval 0 25 v0 rfl rfl) h0
  refine (lawFnExactShowEntry_walk x0 W (tabFnExactShowEntry hL)).mono fun e W' ⟨he, hb⟩ => ?_
  subst he
  refine ⟨_, rfl, law_post Tryd.laidOut0 ?_ rsFnExactShowEntry Tryd.underlying4 rfl hW' rfl hb⟩
  rw [Tryd.params3]
  intro t ht
  simp only [List.mem_cons, List.not_mem_nil, or_false] at ht
  subst ht
  exact rdFnExactShowEntry0

theorem liftedFnExactShowEntry (os : Os) (started : os.Started) (H : Type) (enc : TypeId × Value → H) :
    ReturnsInHanded {} Tryd.checked os 3 .any (fun w args => (Rows.fnExactShowEntrySpec.pre enc Tryd.checked.prog Tryd.f3 Rows.fnExactShowEntryRow.domain false w args ∧ laidMetH Tryd.checked.prog Rows.fnExactShowEntryRow.laid w) ∧ sizedMet enc Tryd.checked.prog Tryd.f3 (OpenSpec.ofChange Rows.fnExactShowEntrySpec) false w args) (Rows.fnExactShowEntrySpec.post enc Tryd.checked.prog Tryd.f3 false true false false) := by
  refine returnsInHanded_of_change_and (C := Tryd.checked) (X := fun w _ => laidMetH Tryd.checked.prog Rows.fnExactShowEntryRow.laid w) (fun _ _ _ hh h => h.of_heap hh) Tryd.own0 started r1FnExactShowEntry Tryd.func3
    (ChangeSpec.witness_at (enc := enc) (C := Tryd.checked) (os := os) (X := fun w _ => laidMetH Tryd.checked.prog Rows.fnExactShowEntryRow.laid w) false (laidWorldFnExactShowEntry os) #[.agg #[.int .i64 0, .int .i64 0, .int .i64 0, .int .i64 0, .int .i64 0, .int .i64 0, .int .i64 0, .int .i64 0, .int .i64 0]] 8 rfl (witAFnExactShowEntry os) (witBFnExactShowEntry os) (witCFnExactShowEntry os) (witDFnExactShowEntry os H enc) (witEFnExactShowEntry os H enc) (laidMetFnExactShowEntry os _)) ?_
  rw [Tryd.progEq0]
  intro W base args ds gs before hval hW _ _ hL _
  exact contractFnExactShowEntry H enc W base args ds gs before @hval hW hL

theorem lifted2FnExactShowEntry (os : Os) (started : os.Started) (H : Type) (enc : TypeId × Value → H) :
    ReturnsInHanded {} Tryd.checked os 3 .any (fun w args => (Rows.fnExactShowEntrySpec.pre enc Tryd.prog Tryd.f3 Rows.fnExactShowEntryRow.domain false w args ∧ laidMetH Tryd.prog Rows.fnExactShowEntryRow.laid w) ∧ sizedMet enc Tryd.prog Tryd.f3 (OpenSpec.ofChange Rows.fnExactShowEntrySpec) false w args) (Rows.fnExactShowEntrySpec.post enc Tryd.prog Tryd.f3 false true false false) := by
  have h := liftedFnExactShowEntry os started H enc
  rw [Tryd.progEq0] at h
  exact h

theorem FnExactShowEntry_row : Rows.FnExactShowEntrySaid :=
  OpenClaim.holds_of_wide 3 Tryd.f3 rfl rfl rfl rfl rfl rfl rfl ⟨rfl, rfl, rfl, rfl, rfl⟩ rfl rfl rfl rfl rfl (by kernel_rfl) Tryd.func3 (by kernel_rfl)
    (of_decide_eq_true (by kernel_rfl)) (by unfold Func.isWrapper; first | (rw [if_pos (by decide +kernel)]; kernel_rfl) | (rw [if_neg (by decide +kernel)]; exact ⟨rfl, rfl⟩))
    (fun os started H enc _ => lifted2FnExactShowEntry os started H enc)
/-- The tied card. -/
theorem FnExactShowEntry_holds : Rows.FnExactShowEntryCardSaid :=
  Claim7.holds_tied_plain_at .later [] [.data, .data, .data] true (true, "e15d06342576177bdcc74776a0f0dde9ab620c9d17f3b7fc3b5fe6cf7cf8c9b9") true
    FnExactShowEntry_row (fun _ h => by cases h) (by kernel_rfl) (fun _ h => by cases h) fnExactShowEntry_row_tie rfl ⟨rfl, rfl⟩ (by kernel_rfl) rfl
    (fun f fn hf hfn => by
      obtain rfl : f = 3 := Option.some.inj ((show Tryd.prog.funcNamed "loop.example/g01287/laws.FnExactShowEntry" = some 3 by kernel_rfl).symm.trans hf) |>.symm
      obtain rfl : fn = Tryd.f3 := (Option.some.inj (Tryd.func3.symm.trans hfn)).symm
      exact ⟨by kernel_rfl, fun j t ht => by
        rw [Tryd.params3] at ht
        have h3 : t = 25 := by
          rcases j with _ | j
          · simpa using ht.symm
          · simp at ht
        subst h3
        exact (show Tryd.prog.wantsStandIn 25 = false by kernel_rfl)⟩)
    (by kernel_rfl)
#print axioms FnExactShowEntry_holds

end Go.Proofs.YtnchmenpgmlpdaaDoor
