/- isHandle of both sides; slices.Equal. -/
import Derived.Test.YtabbncoihmhocaaObjPure
import Derived.Deep.LoopGhost
namespace Go.Proofs.Ytabbncoihmhocaa
open Go.RowKit

theorem implHandle_any (n : Int) (w : World) : Calls Try.prog 58 #[.int .i64 n] w fun e w' => e = .returned (.bool (isHandleB n)) ∧ w = w' := by
  go_enter Try.func58, Try.ntmps58
  go_wp2_with fail
  refine (within_any _ _ _ _).mono ?_
  rintro e w' ⟨rfl, rfl⟩
  go_wp2
  go_ret
  exact ⟨rfl, rfl⟩
theorem specHandle_any (n : Int) (w : World) : Calls Try.prog 35 #[.int .i64 n] w fun e w' => e = .returned (.bool (isHandleB n)) ∧ w = w' := by
  go_enter Try.func35, Try.ntmps35
  go_wp2_with fail
  refine (l1In_any _ _ _ _).mono ?_
  rintro e w' ⟨rfl, rfl⟩
  go_wp2
  go_ret
  exact ⟨rfl, rfl⟩
set_option maxRecDepth 100000 in
set_option maxHeartbeats 2000000 in
theorem eqInts_any (va vb : Value) (l m : List Int) (hl : l.length ≤ 1048576) (_hm : m.length ≤ 1048576) (w : World) (ha : SlIs w va l.length (icell l)) (hb : SlIs w vb m.length (icell m)) :
    Calls Try.prog 59 #[va, vb] w fun e w' => e = .returned (.bool (decide (l = m))) ∧ Qt w w' := by
  obtain ⟨a, ca, rfl, hca, hra⟩ := ha
  obtain ⟨b, cb, rfl, hcb, hrb⟩ := hb
  by_cases hlm : l.length = m.length
  · have d1 : ((l.length : Int) != (m.length : Int)) = false := by simp [hlm]
    have HLM := Lib.hid hlm
    clear hlm
    go_enter Try.func59, Try.ntmps59
    go_wp2
    clear d1
    go_loopg [13] (l.length + 1) (fun gk i wr => ∃ (k : Nat), l.length < gk + k ∧ k ≤ l.length ∧ i = .int .i64 (k : Int) ∧ Hid (∀ j, j < k → l[j]? = m[j]?) ∧ Qt w wr)
    case atStart => exact ⟨0, by omega, by omega, rfl, hideP (fun j hj => by omega), Qt.refl _⟩
    case round =>
      obtain ⟨k, hgk, hk, rfl, he, nq, rfl⟩ := hrel
      by_cases hlt : k < l.length
      · obtain ⟨x, hx⟩ := some_at (l := l) (k := k) hlt
        obtain ⟨y, hy⟩ := some_at (l := m) (k := k) (by have := HLM.out; omega)
        have k0 : (0 : Int) ≤ (k : Int) := by omega
        have k2 : (k : Int) < (m.length : Int) := by have := HLM.out; omega
        have k3 : k < m.length := by have := HLM.out; omega
        obtain ⟨b1, o1, rfl, hw1, g0⟩ := rdInt hra hx
        obtain ⟨b2, o2, rfl, hw2, j0⟩ := rdInt hrb hy
        have HX := Lib.hid hx
        have HY := Lib.hid hy
        clear hx hy
        by_cases hxy : x = y
        · subst hxy
          have HE : Hid (∀ j, j < k + 1 → l[j]? = m[j]?) := hideP (fun j hj => by
            by_cases e : j = k
            · subst e; rw [HX.out, HY.out]
            · exact he.out j (by omega))
          go_wp2
          go_quiet (fail)
          go_wp2
          go_roundg (gk - 1)
          case measure => omega
          case rel => exact ⟨k + 1, by omega, by omega, by go_num, HE, by first | exact Qt.dd _ _ _ | exact Qt.d _ _⟩
        · have HN : Hid (decide (l = m) = false) := hideP (decide_eq_false (fun e => hxy (by have h1 := HX.out; rw [e, HY.out] at h1; cases h1; rfl)))
          have d1 : (x != y) = true := by simpa using hxy
          clear hxy
          go_wp2
          go_quiet (fail)
          go_wp2
          go_ret
          exact ⟨ret_bool HN.out.symm, by first | exact Qt.dd _ _ _ | exact Qt.d _ _⟩
      · have HE : Hid (decide (l = m) = true) := hideP (decide_eq_true (List.ext_getElem? fun j => by
          by_cases hj : j < k
          · exact he.out j hj
          · rw [List.getElem?_eq_none (by omega), List.getElem?_eq_none (by have := HLM.out; omega)]))
        go_wp2
        go_ret
        exact ⟨ret_bool HE.out.symm, Qt.d _ _⟩
  · have d1 : ((l.length : Int) != (m.length : Int)) = true := by simp; omega
    have HN : Hid (decide (l = m) = false) := hideP (decide_eq_false (fun e => hlm (by rw [e])))
    clear hlm
    go_enter Try.func59, Try.ntmps59
    go_wp2
    go_ret
    exact ⟨ret_bool HN.out.symm, Qt.refl _⟩

set_option maxRecDepth 100000 in
set_option maxHeartbeats 2000000 in
theorem eqMsgs_any (va vb : Value) (l m : List Msg) (hl : l.length ≤ 1048576) (_hm : m.length ≤ 1048576) (w : World) (ha : SlIs w va l.length (l.flatMap Msg.enc)) (hb : SlIs w vb m.length (m.flatMap Msg.enc)) :
    Calls Try.prog 60 #[va, vb] w fun e w' => e = .returned (.bool (decide (l = m))) ∧ Qt w w' := by
  obtain ⟨a, ca, rfl, hca, hra⟩ := ha
  obtain ⟨b, cb, rfl, hcb, hrb⟩ := hb
  by_cases hlm : l.length = m.length
  · have d1 : ((l.length : Int) != (m.length : Int)) = false := by simp [hlm]
    have HLM := Lib.hid hlm
    clear hlm
    go_enter Try.func60, Try.ntmps60
    go_wp2
    clear d1
    go_loopg [13] (l.length + 1) (fun gk i wr => ∃ (k : Nat), l.length < gk + k ∧ k ≤ l.length ∧ i = .int .i64 (k : Int) ∧ Hid (∀ j, j < k → l[j]? = m[j]?) ∧ Qt w wr)
    case atStart => exact ⟨0, by omega, by omega, rfl, hideP (fun j hj => by omega), Qt.refl _⟩
    case round =>
      obtain ⟨k, hgk, hk, rfl, he, nq, rfl⟩ := hrel
      by_cases hlt : k < l.length
      · obtain ⟨x, hx⟩ := some_at (l := l) (k := k) hlt
        obtain ⟨y, hy⟩ := some_at (l := m) (k := k) (by have := HLM.out; omega)
        have k0 : (0 : Int) ≤ (k : Int) := by omega
        have k2 : (k : Int) < (m.length : Int) := by have := HLM.out; omega
        have k3 : k < m.length := by have := HLM.out; omega
        obtain ⟨b1, o1, rfl, hw1, g0, g1⟩ := Rd.rowMsg hra hx
        obtain ⟨b2, o2, rfl, hw2, j0, j1⟩ := Rd.rowMsg hrb hy
        have HX := Lib.hid hx
        have HY := Lib.hid hy
        clear hx hy
        by_cases hxy : x = y
        · subst hxy
          have HE : Hid (∀ j, j < k + 1 → l[j]? = m[j]?) := hideP (fun j hj => by
            by_cases e : j = k
            · subst e; rw [HX.out, HY.out]
            · exact he.out j (by omega))
          go_wp2
          go_quiet (fail)
          go_wp2
          go_roundg (gk - 1)
          case measure => omega
          case rel => exact ⟨k + 1, by omega, by omega, by go_num, HE, by first | exact Qt.dd _ _ _ | exact Qt.d _ _⟩
        · have HN : Hid (decide (l = m) = false) := hideP (decide_eq_false (fun e => hxy (by have h1 := HX.out; rw [e, HY.out] at h1; cases h1; rfl)))
          obtain ⟨x1, x2⟩ := x
          obtain ⟨y1, y2⟩ := y
          dsimp only at g0 g1 j0 j1
          have hc : x1 ≠ y1 ∨ (x1 = y1 ∧ x2 ≠ y2) := by
            by_cases e : x1 = y1
            · exact .inr ⟨e, fun e2 => hxy (by rw [e, e2])⟩
            · exact .inl e
          clear hxy
          rcases hc with hc | ⟨rfl, hc⟩
          · have d1 : (x1 == y1) = false := by simpa using hc
            clear hc
            go_wp2
            go_quiet (fail)
            go_wp2
            go_ret
            exact ⟨ret_bool HN.out.symm, by first | exact Qt.dd _ _ _ | exact Qt.d _ _⟩
          · have d1 : (x2 == y2) = false := by simpa using hc
            clear hc
            go_wp2
            go_quiet (fail)
            go_wp2
            go_ret
            exact ⟨ret_bool HN.out.symm, by first | exact Qt.dd _ _ _ | exact Qt.d _ _⟩
      · have HE : Hid (decide (l = m) = true) := hideP (decide_eq_true (List.ext_getElem? fun j => by
          by_cases hj : j < k
          · exact he.out j hj
          · rw [List.getElem?_eq_none (by omega), List.getElem?_eq_none (by have := HLM.out; omega)]))
        go_wp2
        go_ret
        exact ⟨ret_bool HE.out.symm, Qt.d _ _⟩
  · have d1 : ((l.length : Int) != (m.length : Int)) = true := by simp; omega
    have HN : Hid (decide (l = m) = false) := hideP (decide_eq_false (fun e => hlm (by rw [e])))
    clear hlm
    go_enter Try.func60, Try.ntmps60
    go_wp2
    go_ret
    exact ⟨ret_bool HN.out.symm, Qt.refl _⟩


end Go.Proofs.Ytabbncoihmhocaa
