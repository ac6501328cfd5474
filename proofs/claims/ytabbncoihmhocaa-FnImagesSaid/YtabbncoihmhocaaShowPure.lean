/- The walk of vars; what a tree shows. -/
import Derived.Test.YtabbncoihmhocaaVarW
import Derived.Test.YtabbncoihmhocaaTreeLaws
import Derived.Deep.LoopGhost
namespace Go.Proofs.Ytabbncoihmhocaa
open Go.RowKit

theorem intRow {w : World} {a : Option Addr} {l : List Int} (h : Rd w a (l.map (Value.int .i64))) {k : Nat} {x : Int} (hx : l[k]? = some x) :
    ∃ b o, a = some ⟨b, o, none⟩ ∧ b < w.heap.size ∧ w.cell? ⟨b, o + k, none⟩ = some (.int .i64 x) := by
  rcases h with h | ⟨b, o, ha, hlt, hc⟩
  · simp at h
    subst h
    simp at hx
  · exact ⟨b, o, ha, hlt, hc k _ (by rw [List.getElem?_map, hx]; rfl)⟩
def varsL (l : List Int) : List UInt8 := l.flatMap varS
theorem varsL_len : ∀ l : List Int, (varsL l).length ≤ 8 * l.length
  | [] => by simp [varsL]
  | x :: l => by
    have h1 := varS_len x
    have h2 := varsL_len l
    show (varS x ++ varsL l).length ≤ _
    rw [List.length_append, List.length_cons]
    omega
theorem varsL_next {l : List Int} {k : Nat} {x : Int} (hx : l[k]? = some x) : varsL (l.take (k + 1)) = varsL (l.take k) ++ varS x := by
  obtain ⟨hk, rfl⟩ := List.getElem?_eq_some_iff.1 hx
  unfold varsL
  rw [List.take_succ_eq_append_getElem hk, List.flatMap_append]
  simp
theorem varsL_take (l : List Int) (k : Nat) (hk : l.length ≤ 1000000) : (varsL (l.take k)).length ≤ 8000000 := by
  have h := varsL_len (l.take k)
  rw [List.length_take] at h
  omega
set_option maxRecDepth 100000 in
set_option maxHeartbeats 4000000 in
theorem vars_any (ad : Option Addr) (n cap : Nat) (l : List Int) (hn : n = l.length) (hl : n ≤ 1000000) (w : World) (h : Rd w ad (l.map (Value.int .i64))) :
    Calls Try.prog 26 #[.slice ad n cap] w fun e w' => e = .returned (.string ⟨(varsL l).toArray⟩) ∧ Below w.heap.size w w' := by
  have Hn := Lib.hid hn
  clear hn
  go_enter Try.func26, Try.ntmps26
  go_wp2
  go_loopg [3, 8] (n + 1) (fun gk s i wr => ∃ (k : Nat) (acc : List UInt8), n < gk + k ∧ k ≤ n ∧ i = .int .i64 (k : Int) ∧ s = .string ⟨acc.toArray⟩ ∧ acc.length ≤ 8000000 ∧ Hid (varsL (l.take k) = acc) ∧ Below w.heap.size w wr)
  case atStart => exact ⟨0, [], by omega, by omega, rfl, rfl, by simp, hideP rfl, Below.refl _ _⟩
  case round =>
    obtain ⟨k, acc, hgk, hk, rfl, rfl, hal, hv, hb⟩ := hrel
    by_cases hlt : k < n
    · obtain ⟨x, hx⟩ := some_at (l := l) (k := k) (by have := Hn.out; omega)
      obtain ⟨b, o, rfl, hbw, g1⟩ := intRow (h.below hb) hx
      have HV : Hid (varsL (l.take (k + 1)) = acc ++ varS x) := hideP (by rw [varsL_next hx, hv.out])
      have hvl := varS_len x
      have hal2 : (acc ++ varS x).length ≤ 8000000 := by rw [← HV.out]; exact varsL_take l _ (by have := Hn.out; omega)
      have hal3 := Lib.hid hal2
      clear hx hal2
      go_wp2_with fail
      refine (implVar_any x _).mono ?_
      rintro e w2 ⟨rfl, hb2⟩
      go_wp2
      go_roundg (gk - 1)
      case measure => omega
      case rel => exact ⟨k + 1, acc ++ varS x, by omega, by omega, by go_num, by rw [ByteArray.mk_append_mk], hal3.out, HV, hb.trans (hb2.mono hb.size)⟩
    · have HV : Hid (varsL l = acc) := hideP (by rw [← hv.out, List.take_of_length_le (by have := Hn.out; omega)])
      go_wp2
      go_ret
      exact ⟨by rw [HV.out]; rfl, hb⟩

/-- What a reserve shows. -/
def resNums (x : Res) : List Int := [flagI x.live, x.par + 1, x.bal.p, x.bal.r, x.bal.c]
def resShow (x : Res) : List UInt8 := varsL (resNums x)
def treeShow (t : List Res) : List UInt8 := t.flatMap resShow
def showTree (t : List Res) : List UInt8 := if treeOk t = true then treeShow t else []
theorem resShow_eq (x : Res) : resShow x = varS (flagI x.live) ++ varS (x.par + 1) ++ varS x.bal.p ++ varS x.bal.r ++ varS x.bal.c := by
  simp [resShow, resNums, varsL, List.append_assoc]
theorem resShow_len (x : Res) : (resShow x).length ≤ 40 := varsL_len (resNums x)
theorem treeShow_next {t : List Res} {k : Nat} {x : Res} (hx : t[k]? = some x) : treeShow (t.take (k + 1)) = treeShow (t.take k) ++ resShow x := by
  obtain ⟨hk, rfl⟩ := List.getElem?_eq_some_iff.1 hx
  unfold treeShow
  rw [List.take_succ_eq_append_getElem hk, List.flatMap_append]
  simp
theorem treeShow_len : ∀ t : List Res, (treeShow t).length ≤ 40 * t.length
  | [] => by simp [treeShow]
  | x :: t => by
    have h1 := resShow_len x
    have h2 := treeShow_len t
    show (resShow x ++ treeShow t).length ≤ _
    rw [List.length_append, List.length_cons]
    omega
theorem treeShow_take (t : List Res) (k : Nat) (h : t.length = 5) : (treeShow (t.take k)).length ≤ 200 := by
  have := treeShow_len (t.take k)
  rw [List.length_take] at this
  omega
theorem live_par {t : List Res} {k : Nat} {x : Res} (h : treeOk t = true) (hx : t[k]? = some x) : -1 ≤ x.par ∧ x.par ≤ 4 := by
  obtain ⟨h5, hh, hp, _⟩ := tree_parts h
  have h1 := hp k x hx
  have hk : k < t.length := (List.getElem?_eq_some_iff.1 hx).1
  obtain ⟨_, x0, hx0, hl0, hp0⟩ := head_get hh
  unfold placeI at h1
  cases hl : x.live
  · rw [hl] at h1
    simp only [Bool.false_eq_true, if_false, decide_eq_true_eq] at h1
    subst h1
    exact ⟨by decide, by decide⟩
  · rw [hl, if_pos rfl, Bool.and_eq_true] at h1
    by_cases h0 : k = 0
    · subst h0
      rw [hx0] at hx
      cases hx
      omega
    · have h2 := h1.2
      rw [leadsUpB, if_neg (by omega)] at h2
      by_cases c : isLiveB t (k : Int) = true
      · rw [if_pos c, resAt_get hx, leadsUpB] at h2
        by_cases c0 : x.par = 0
        · omega
        · rw [if_neg c0] at h2
          by_cases c2 : isLiveB t x.par = true
          · unfold isLiveB at c2
            rw [Bool.and_eq_true, inB_true] at c2
            omega
          · rw [if_neg c2] at h2; cases h2
      · rw [if_neg c] at h2; cases h2

end Go.Proofs.Ytabbncoihmhocaa
