/- The walks of l23List. -/
import Derived.Test.YtnchmenpgmlpdaaThingRet
import Derived.Test.YtnchmenpgmlpdaaVarsW
namespace Go.Proofs.Ytnchmenpgmlpdaa
open Go.RowKit

def xOf : Option (List Nat × Nat) → Int
  | some q => (q.2 : Int)
  | none => -1
/-- What the reading of several numbers hands back. -/
def ListRet (w : World) (p : Option (List Nat × Nat)) (e : Ending) (w' : World) : Prop :=
  ∃ v n xs, e = .returned (.tuple #[v, .int .i64 (xOf p)]) ∧ w'.ownsRow w.heap.size 3 1 v n xs ∧ (∀ ns k, p = some (ns, k) → n = ns.length ∧ xs = icells ns) ∧ Below w.heap.size w w'
theorem vars_list (s : ByteArray) (a m : Nat) (hs : s.size ≤ maxLen) (ha : a ≤ s.size) (hm : m ≤ 100) (w : World) :
    Calls Try.prog 96 #[.string s, .int .i64 (a : Int), .int .i64 (m : Int)] w (ListRet w (seqAt (bl s) a m)) :=
  (l23Vars_any s a m hs ha hm w).mono fun e w' h => by
    unfold VarsRet at h
    unfold seqAt
    cases hq : seqGo ((bl s).drop a) m with
    | none =>
      rw [hq] at h
      obtain ⟨v, xs, rfl, ho, hb⟩ := h
      exact ⟨v, m, xs, rfl, ho, (fun ns k h => (by cases h)), hb⟩
    | some q =>
      obtain ⟨ns, k⟩ := q
      rw [hq] at h
      obtain ⟨v, rfl, ho, hb⟩ := h
      exact ⟨v, m, icells ns, rfl, ho, (fun ns' k' h => (by cases h; exact ⟨(seqGo_inv hq).1.symm, rfl⟩)), hb⟩
set_option maxRecDepth 100000 in
set_option maxHeartbeats 8000000 in
theorem list21_some (s : ByteArray) (a : Nat) (hs : s.size ≤ maxLen) (ha : a ≤ s.size) (w : World) :
    Calls Try.prog 106 #[.string s, .int .i64 (a : Int), .int .i64 2, .int .i64 1] w (ListRet w (listGo (bl s) a 2 1)) := by
  obtain ⟨P, hP⟩ : ∃ P, seqAt (bl s) a 1 = P := ⟨_, rfl⟩
  have HV := hideP (fun W => vars_list s a 1 hs ha (by decide) W)
  rw [hP] at HV
  have HL : Hid (listGo (bl s) a 2 1 = P.bind fun q => if 2 < q.1.getD 0 0 then none else seqAt (bl s) q.2 (q.1.getD 0 0 * 1)) := hideP (by unfold listGo; rw [hP])
  have HP := Lib.hid hP
  clear hP
  go_enter Try.func106, Try.ntmps106
  go_wp2_with fail
  refine (HV.out _).mono ?_
  rintro e w1 ⟨v, n, xs, rfl, ho, hx, hb⟩
  have HB := Lib.hid hb
  have HO := Lib.hid ho
  have HX := Lib.hid hx
  clear ho hx hb HV
  cases P with
  | none =>
    have HN : Hid (listGo (bl s) a 2 1 = none) := hideP HL.out
    rw [show xOf none = -1 from rfl]
    go_wp2
    go_ret2
    rw [HN.out]
    exact ⟨_, 0, [], rfl, owns_lit HB.out.size rfl (by decide) (by simp) rfl, (fun ns k h => (by cases h)), HB.out.alloc HB.out.size _⟩
  | some q =>
    obtain ⟨ns, B⟩ := q
    obtain ⟨e1, e2⟩ := HX.out ns B rfl
    obtain ⟨l1, l2, l3⟩ := seqAt_eats (by rw [bl_length]; exact ha) HP.out
    obtain ⟨x, rfl⟩ : ∃ x, ns = [x] := by
      match ns, l1 with
      | [n], _ => exact ⟨n, rfl⟩
    have hxv : x ≤ 562949953421311 := l2 x (by simp)
    have hB : B ≤ s.size := by have := l3.le.1; rw [bl_length] at this; exact this
    subst e2
    obtain rfl : n = 1 := e1
    rw [show xOf (some ([x], B)) = (B : Int) from rfl]
    obtain ⟨va, c, rfl, hc1⟩ := owns_slice HO.out
    obtain ⟨g, rfl, hg0⟩ := owns_block HO.out (by decide)
    have c0 : w1.cell? ⟨g, 0, none⟩ = some (.int .i64 (x : Int)) := by rw [HO.out.cellAt 0 (by decide)]; rfl
    have HL2 : Hid (listGo (bl s) a 2 1 = if 2 < x then none else seqAt (bl s) B x) := hideP (HL.out.trans (by simp))
    clear HL l1 l2 l3 HX
    by_cases hm : 2 < x
    · rw [if_pos hm] at HL2
      have d1 : (2 : Int) < (x : Int) := by omega
      clear hm
      go_wp2
      go_ret2
      rw [HL2.out]
      exact ⟨_, 0, [], rfl, owns_lit HB.out.size rfl (by decide) (by simp) rfl, (fun ns k h => (by cases h)), HB.out.alloc HB.out.size _⟩
    · rw [if_neg hm] at HL2
      have d1 : ¬ (2 : Int) < (x : Int) := by omega
      have hx8 : x ≤ 2 := by omega
      have HV2 : Hid (∀ W, Calls Try.prog 96 #[.string s, .int .i64 (B : Int), .int .i64 ((x : Int))] W (ListRet W (seqAt (bl s) B x))) := hideP (fun W => by
        have := vars_list s B (x * 1) hs hB (by omega) W
        simpa using this)
      clear hm
      go_wp2_with fail
      refine (HV2.out _).mono ?_
      rintro e w2 ⟨v2, n2, xs2, rfl, ho2, hx2, hb2⟩
      have HO2 := hideP (owns_mono ho2 HB.out.size)
      have HX2 := Lib.hid hx2
      have HB2 := hideP (HB.out.trans (hb2.mono HB.out.size))
      clear ho2 hx2 hb2
      go_wp2
      go_ret2
      rw [HL2.out]
      exact ⟨_, n2, xs2, rfl, HO2.out, HX2.out, HB2.out⟩
theorem list21_none (s : ByteArray) (w : World) :
    Calls Try.prog 106 #[.string s, .int .i64 (-1), .int .i64 2, .int .i64 1] w (ListRet w none) := by
  go_enter Try.func106, Try.ntmps106
  go_wp2
  go_ret2
  exact ⟨_, 0, [], rfl, owns_lit (Nat.le_refl _) rfl (by decide) (by simp) rfl, (fun ns k h => (by cases h)), below_a1 _ _⟩
theorem list21_any (s : ByteArray) (p : Option (List Nat × Nat)) (hs : s.size ≤ maxLen) (hp : ∀ ns a, p = some (ns, a) → a ≤ s.size) (w : World) :
    Calls Try.prog 106 #[.string s, .int .i64 (xOf p), .int .i64 2, .int .i64 1] w (ListRet w (p.bind fun q => listGo (bl s) q.2 2 1)) := by
  cases p with
  | none => exact list21_none s w
  | some q => exact list21_some s q.2 hs (hp q.1 q.2 rfl) w
set_option maxRecDepth 100000 in
set_option maxHeartbeats 8000000 in
theorem list81_some (s : ByteArray) (a : Nat) (hs : s.size ≤ maxLen) (ha : a ≤ s.size) (w : World) :
    Calls Try.prog 106 #[.string s, .int .i64 (a : Int), .int .i64 8, .int .i64 1] w (ListRet w (listGo (bl s) a 8 1)) := by
  obtain ⟨P, hP⟩ : ∃ P, seqAt (bl s) a 1 = P := ⟨_, rfl⟩
  have HV := hideP (fun W => vars_list s a 1 hs ha (by decide) W)
  rw [hP] at HV
  have HL : Hid (listGo (bl s) a 8 1 = P.bind fun q => if 8 < q.1.getD 0 0 then none else seqAt (bl s) q.2 (q.1.getD 0 0 * 1)) := hideP (by unfold listGo; rw [hP])
  have HP := Lib.hid hP
  clear hP
  go_enter Try.func106, Try.ntmps106
  go_wp2_with fail
  refine (HV.out _).mono ?_
  rintro e w1 ⟨v, n, xs, rfl, ho, hx, hb⟩
  have HB := Lib.hid hb
  have HO := Lib.hid ho
  have HX := Lib.hid hx
  clear ho hx hb HV
  cases P with
  | none =>
    have HN : Hid (listGo (bl s) a 8 1 = none) := hideP HL.out
    rw [show xOf none = -1 from rfl]
    go_wp2
    go_ret2
    rw [HN.out]
    exact ⟨_, 0, [], rfl, owns_lit HB.out.size rfl (by decide) (by simp) rfl, (fun ns k h => (by cases h)), HB.out.alloc HB.out.size _⟩
  | some q =>
    obtain ⟨ns, B⟩ := q
    obtain ⟨e1, e2⟩ := HX.out ns B rfl
    obtain ⟨l1, l2, l3⟩ := seqAt_eats (by rw [bl_length]; exact ha) HP.out
    obtain ⟨x, rfl⟩ : ∃ x, ns = [x] := by
      match ns, l1 with
      | [n], _ => exact ⟨n, rfl⟩
    have hxv : x ≤ 562949953421311 := l2 x (by simp)
    have hB : B ≤ s.size := by have := l3.le.1; rw [bl_length] at this; exact this
    subst e2
    obtain rfl : n = 1 := e1
    rw [show xOf (some ([x], B)) = (B : Int) from rfl]
    obtain ⟨va, c, rfl, hc1⟩ := owns_slice HO.out
    obtain ⟨g, rfl, hg0⟩ := owns_block HO.out (by decide)
    have c0 : w1.cell? ⟨g, 0, none⟩ = some (.int .i64 (x : Int)) := by rw [HO.out.cellAt 0 (by decide)]; rfl
    have HL2 : Hid (listGo (bl s) a 8 1 = if 8 < x then none else seqAt (bl s) B x) := hideP (HL.out.trans (by simp))
    clear HL l1 l2 l3 HX
    by_cases hm : 8 < x
    · rw [if_pos hm] at HL2
      have d1 : (8 : Int) < (x : Int) := by omega
      clear hm
      go_wp2
      go_ret2
      rw [HL2.out]
      exact ⟨_, 0, [], rfl, owns_lit HB.out.size rfl (by decide) (by simp) rfl, (fun ns k h => (by cases h)), HB.out.alloc HB.out.size _⟩
    · rw [if_neg hm] at HL2
      have d1 : ¬ (8 : Int) < (x : Int) := by omega
      have hx8 : x ≤ 8 := by omega
      have HV2 : Hid (∀ W, Calls Try.prog 96 #[.string s, .int .i64 (B : Int), .int .i64 ((x : Int))] W (ListRet W (seqAt (bl s) B x))) := hideP (fun W => by
        have := vars_list s B (x * 1) hs hB (by omega) W
        simpa using this)
      clear hm
      go_wp2_with fail
      refine (HV2.out _).mono ?_
      rintro e w2 ⟨v2, n2, xs2, rfl, ho2, hx2, hb2⟩
      have HO2 := hideP (owns_mono ho2 HB.out.size)
      have HX2 := Lib.hid hx2
      have HB2 := hideP (HB.out.trans (hb2.mono HB.out.size))
      clear ho2 hx2 hb2
      go_wp2
      go_ret2
      rw [HL2.out]
      exact ⟨_, n2, xs2, rfl, HO2.out, HX2.out, HB2.out⟩
theorem list81_none (s : ByteArray) (w : World) :
    Calls Try.prog 106 #[.string s, .int .i64 (-1), .int .i64 8, .int .i64 1] w (ListRet w none) := by
  go_enter Try.func106, Try.ntmps106
  go_wp2
  go_ret2
  exact ⟨_, 0, [], rfl, owns_lit (Nat.le_refl _) rfl (by decide) (by simp) rfl, (fun ns k h => (by cases h)), below_a1 _ _⟩
theorem list81_any (s : ByteArray) (p : Option (List Nat × Nat)) (hs : s.size ≤ maxLen) (hp : ∀ ns a, p = some (ns, a) → a ≤ s.size) (w : World) :
    Calls Try.prog 106 #[.string s, .int .i64 (xOf p), .int .i64 8, .int .i64 1] w (ListRet w (p.bind fun q => listGo (bl s) q.2 8 1)) := by
  cases p with
  | none => exact list81_none s w
  | some q => exact list81_some s q.2 hs (hp q.1 q.2 rfl) w
set_option maxRecDepth 100000 in
set_option maxHeartbeats 8000000 in
theorem list22_some (s : ByteArray) (a : Nat) (hs : s.size ≤ maxLen) (ha : a ≤ s.size) (w : World) :
    Calls Try.prog 106 #[.string s, .int .i64 (a : Int), .int .i64 2, .int .i64 2] w (ListRet w (listGo (bl s) a 2 2)) := by
  obtain ⟨P, hP⟩ : ∃ P, seqAt (bl s) a 1 = P := ⟨_, rfl⟩
  have HV := hideP (fun W => vars_list s a 1 hs ha (by decide) W)
  rw [hP] at HV
  have HL : Hid (listGo (bl s) a 2 2 = P.bind fun q => if 2 < q.1.getD 0 0 then none else seqAt (bl s) q.2 (q.1.getD 0 0 * 2)) := hideP (by unfold listGo; rw [hP])
  have HP := Lib.hid hP
  clear hP
  go_enter Try.func106, Try.ntmps106
  go_wp2_with fail
  refine (HV.out _).mono ?_
  rintro e w1 ⟨v, n, xs, rfl, ho, hx, hb⟩
  have HB := Lib.hid hb
  have HO := Lib.hid ho
  have HX := Lib.hid hx
  clear ho hx hb HV
  cases P with
  | none =>
    have HN : Hid (listGo (bl s) a 2 2 = none) := hideP HL.out
    rw [show xOf none = -1 from rfl]
    go_wp2
    go_ret2
    rw [HN.out]
    exact ⟨_, 0, [], rfl, owns_lit HB.out.size rfl (by decide) (by simp) rfl, (fun ns k h => (by cases h)), HB.out.alloc HB.out.size _⟩
  | some q =>
    obtain ⟨ns, B⟩ := q
    obtain ⟨e1, e2⟩ := HX.out ns B rfl
    obtain ⟨l1, l2, l3⟩ := seqAt_eats (by rw [bl_length]; exact ha) HP.out
    obtain ⟨x, rfl⟩ : ∃ x, ns = [x] := by
      match ns, l1 with
      | [n], _ => exact ⟨n, rfl⟩
    have hxv : x ≤ 562949953421311 := l2 x (by simp)
    have hB : B ≤ s.size := by have := l3.le.1; rw [bl_length] at this; exact this
    subst e2
    obtain rfl : n = 1 := e1
    rw [show xOf (some ([x], B)) = (B : Int) from rfl]
    obtain ⟨va, c, rfl, hc1⟩ := owns_slice HO.out
    obtain ⟨g, rfl, hg0⟩ := owns_block HO.out (by decide)
    have c0 : w1.cell? ⟨g, 0, none⟩ = some (.int .i64 (x : Int)) := by rw [HO.out.cellAt 0 (by decide)]; rfl
    have HL2 : Hid (listGo (bl s) a 2 2 = if 2 < x then none else seqAt (bl s) B (x * 2)) := hideP (HL.out.trans (by simp))
    clear HL l1 l2 l3 HX
    by_cases hm : 2 < x
    · rw [if_pos hm] at HL2
      have d1 : (2 : Int) < (x : Int) := by omega
      clear hm
      go_wp2
      go_ret2
      rw [HL2.out]
      exact ⟨_, 0, [], rfl, owns_lit HB.out.size rfl (by decide) (by simp) rfl, (fun ns k h => (by cases h)), HB.out.alloc HB.out.size _⟩
    · rw [if_neg hm] at HL2
      have d1 : ¬ (2 : Int) < (x : Int) := by omega
      have hx8 : x ≤ 2 := by omega
      have HV2 : Hid (∀ W, Calls Try.prog 96 #[.string s, .int .i64 (B : Int), .int .i64 ((x : Int) * 2)] W (ListRet W (seqAt (bl s) B (x * 2)))) := hideP (fun W => by
        have := vars_list s B (x * 2) hs hB (by omega) W
        rwa [show ((x * 2 : Nat) : Int) = (x : Int) * 2 from by push_cast; rfl] at this)
      clear hm
      go_wp2_with fail
      refine (HV2.out _).mono ?_
      rintro e w2 ⟨v2, n2, xs2, rfl, ho2, hx2, hb2⟩
      have HO2 := hideP (owns_mono ho2 HB.out.size)
      have HX2 := Lib.hid hx2
      have HB2 := hideP (HB.out.trans (hb2.mono HB.out.size))
      clear ho2 hx2 hb2
      go_wp2
      go_ret2
      rw [HL2.out]
      exact ⟨_, n2, xs2, rfl, HO2.out, HX2.out, HB2.out⟩
theorem list22_none (s : ByteArray) (w : World) :
    Calls Try.prog 106 #[.string s, .int .i64 (-1), .int .i64 2, .int .i64 2] w (ListRet w none) := by
  go_enter Try.func106, Try.ntmps106
  go_wp2
  go_ret2
  exact ⟨_, 0, [], rfl, owns_lit (Nat.le_refl _) rfl (by decide) (by simp) rfl, (fun ns k h => (by cases h)), below_a1 _ _⟩
theorem list22_any (s : ByteArray) (p : Option (List Nat × Nat)) (hs : s.size ≤ maxLen) (hp : ∀ ns a, p = some (ns, a) → a ≤ s.size) (w : World) :
    Calls Try.prog 106 #[.string s, .int .i64 (xOf p), .int .i64 2, .int .i64 2] w (ListRet w (p.bind fun q => listGo (bl s) q.2 2 2)) := by
  cases p with
  | none => exact list22_none s w
  | some q => exact list22_some s q.2 hs (hp q.1 q.2 rfl) w

end Go.Proofs.Ytnchmenpgmlpdaa
