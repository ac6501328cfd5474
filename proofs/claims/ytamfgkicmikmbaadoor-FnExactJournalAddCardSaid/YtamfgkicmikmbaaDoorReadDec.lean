/- ReadDec of both sides. -/
import Derived.Test.YtamfgkicmikmbaaDoorDoorShelf2
import Derived.Test.YtamfgkicmikmbaaDoorDec
import Derived.Test.YtamfgkicmikmbaaDoorReadDecPure
import Derived.Test.YtamfgkicmikmbaaDoorSmall
import Derived.Lib.AtoiErrMem
namespace Go.Proofs.YtamfgkicmikmbaaDoor
open Go.RowKit

/-- A number's text read. -/
def readDec (l : List UInt8) : Option Int :=
  match Lib.atoiAll l with
  | .ok v => if (-999999999 ≤ v ∧ v ≤ 999999999) ∧ Lib.itoa v = l then some v else none
  | _ => none
theorem readDec_some {l : List UInt8} {v : Int} : readDec l = some v ↔ (-999999999 ≤ v ∧ v ≤ 999999999) ∧ Lib.itoa v = l := by
  constructor
  · intro h
    unfold readDec at h
    split at h
    · split at h
      · next hv => cases h; exact hv
      · cases h
    · cases h
  · rintro ⟨hv, rfl⟩
    unfold readDec
    rw [atoi_itoa hv]
    dsimp only
    rw [if_pos ⟨hv, rfl⟩]
def decRes (l : List UInt8) : Value := .tuple #[.int .i64 ((readDec l).getD 0), .bool (readDec l).isSome]
/-- The library's tables and errors that are read. -/
structure Doors (w : World) : Prop where
  pow : Lib.TabIs Tryd.prog w "internal/strconv.uint64pow10" .u64 Lib.pow10Tab
  syn : ∃ tp p, w.var? Tryd.prog "strconv.ErrSyntax" = some #[.iface tp p]
  rng : ∃ tp p, w.var? Tryd.prog "strconv.ErrRange" = some #[.iface tp p]
theorem var_below {P : Program} {w w' : World} {nm : String} {vs : Array Value} (h : w.var? P nm = some vs) (hb : Below w.heap.size w w') : w'.var? P nm = some vs := by
  unfold World.var? at h ⊢
  cases hg : P.globalNamed nm with
  | none => rw [hg] at h; simp at h
  | some g =>
    rw [hg] at h
    simp only [Option.bind_some] at h ⊢
    have hlt : g < w.heap.size := by
      rcases Nat.lt_or_ge g w.heap.size with h' | h'
      · exact h'
      · rw [Array.getElem?_eq_none h'] at h; cases h
    rw [hb.block g hlt]
    exact h
theorem Doors.below {w w' : World} (h : Doors w) (hb : Below w.heap.size w w') : Doors w' := by
  obtain ⟨t1, p1, e1⟩ := h.syn
  obtain ⟨t2, p2, e2⟩ := h.rng
  exact ⟨tab_below h.pow hb, ⟨t1, p1, var_below e1 hb⟩, ⟨t2, p2, var_below e2 hb⟩⟩
set_option maxRecDepth 100000 in
set_option maxHeartbeats 4000000 in
theorem implReadDec_any (s : ByteArray) (hs : s.size ≤ 281474976710656) (w : World) (hd : Doors w) :
    Calls Tryd.prog 20 #[.string s] w fun e w' => e = .returned (decRes s.data.toList) ∧ Below w.heap.size w w' := by
  have HD := hideP hd
  clear hd
  go_enter Tryd.func20, Tryd.ntmps20
  cases h : Lib.atoiAll s.data.toList with
  | «syntax» =>
    obtain ⟨tp, p, hv⟩ := HD.out.syn
    have HN : Hid (decRes s.data.toList = .tuple #[.int .i64 0, .bool false]) := hideP (by unfold decRes readDec; rw [h]; rfl)
    have HH := hideP h
    have HV := hideP hv
    clear h hv
    go_wp2_with fail
    refine (Tryd.strconv_Atoi_syntax_var s hs HH.out tp p _ HV.out).mono ?_
    rintro e w1 ⟨N, rfl, hN, _, hb⟩
    have HB := hideP hb
    clear hb
    go_wp2
    go_ret2
    exact ⟨by rw [HN.out]; rfl, HB.out⟩
  | range =>
    obtain ⟨tp, p, hv⟩ := HD.out.rng
    have HN : Hid (decRes s.data.toList = .tuple #[.int .i64 0, .bool false]) := hideP (by unfold decRes readDec; rw [h]; rfl)
    have HH := hideP h
    have HV := hideP hv
    clear h hv
    go_wp2_with fail
    refine (Tryd.strconv_Atoi_range_var s hs HH.out tp p _ HV.out).mono ?_
    rintro e w1 ⟨N, rfl, hN, _, hb⟩
    have HB := hideP hb
    clear hb
    go_wp2
    go_ret2
    exact ⟨by rw [HN.out]; rfl, HB.out⟩
  | ok v =>
    have HH := hideP h
    have HR : Hid (readDec s.data.toList = if (-999999999 ≤ v ∧ v ≤ 999999999) ∧ Lib.itoa v = s.data.toList then some v else none) := hideP (by unfold readDec; rw [h])
    clear h
    go_wp2_with fail
    refine (Tryd.strconv_Atoi_ok s (by omega) v HH.out _).mono ?_
    rintro e w1 ⟨rfl, hw⟩
    have HB : Hid (Below w.heap.size w w1) := hideP (by
      rcases hw with rfl | ⟨t, rfl⟩
      · exact Below.refl _ _
      · exact Lib.bytesWorld_below w _ t)
    clear hw
    go_wp2_with fail
    refine (within_any _ _ _ _).mono ?_
    rintro e w2 ⟨rfl, rfl⟩
    cases hin : inB v (-999999999) 999999999
    · have HN : Hid (decRes s.data.toList = .tuple #[.int .i64 0, .bool false]) := hideP (by unfold decRes; rw [HR.out, if_neg (fun q => by have := inB_false.1 hin; omega)]; rfl)
      clear hin
      go_wp2
      go_ret2
      exact ⟨by rw [HN.out]; rfl, HB.out⟩
    · have hv9 := inB_true.1 hin
      clear hin
      go_wp2_with fail
      refine (implDec_any v (by omega) (by omega) _ (HD.out.below HB.out).pow).mono ?_
      rintro e w3 ⟨rfl, hb3⟩
      have HB := hideP (HB.out.trans (hb3.mono HB.out.size))
      clear hb3
      by_cases he : Lib.itoa v = s.data.toList
      · have HN : Hid (decRes s.data.toList = .tuple #[.int .i64 v, .bool true]) := hideP (by unfold decRes; rw [HR.out, if_pos ⟨hv9, he⟩]; rfl)
        have e1 : (Lib.itoa v == s.toList) = true := by rw [ByteArray.toList_eq, he]; simp
        clear he
        go_wp2
        go_ret2
        exact ⟨by rw [HN.out]; rfl, HB.out⟩
      · have HN : Hid (decRes s.data.toList = .tuple #[.int .i64 0, .bool false]) := hideP (by unfold decRes; rw [HR.out, if_neg (fun q => he q.2)]; rfl)
        have e1 : (Lib.itoa v == s.toList) = false := by rw [ByteArray.toList_eq]; simpa using he
        clear he
        go_wp2
        go_ret2
        exact ⟨by rw [HN.out]; rfl, HB.out⟩

end Go.Proofs.YtamfgkicmikmbaaDoor
