/- Leases drawn. -/
import Derived.Test.YtclananddmjnaaaDrawEnv
import Derived.Test.YtclananddmjnaaaLeaseTo
import Derived.Deep.LoopGhost
namespace Go.Proofs.Ytclananddmjnaaa
open Go.RowKit


def LAcc (W : World) (cb : Nat) (l : List Lease) (v : Value) (w : World) : Prop := DAcc W cb 54 3 l.length (l.flatMap Lease.enc) v w
section
variable {W w w' : World} {cb : Nat} {l : List Lease} {v : Value}
theorem LAcc.nil (h : DW W cb w) {g : Nat} (hg : g = w.heap.size) : LAcc W cb [] (.slice (some ⟨g, 0, none⟩) 0 0) (w.alloc (.cells #[] 54)) := DAcc.nil h hg
theorem LAcc.push {x : Lease} (h : DAcc W cb 54 3 (l.length + 1) (l.flatMap Lease.enc ++ x.enc) v w) : LAcc W cb (l ++ [x]) v w := by
  unfold LAcc
  simpa using h
theorem LAcc.drew (h : LAcc W cb l v w) (hd : Drew W cb w w') : LAcc W cb l v w' := DAcc.drew h hd
theorem LAcc.de (h : LAcc W cb l v w) : DE W cb w := DAcc.de h
theorem LAcc.dw (h : LAcc W cb l v w) : DW W cb w := DAcc.dw h
theorem LAcc.slice (h : LAcc W cb l v w) : ∃ a c, v = .slice a l.length c ∧ Rd w a (l.flatMap Lease.enc) := DAcc.slice h
theorem LAcc.alloc (h : LAcc W cb l v w) (o : Obj) : LAcc W cb l v (w.alloc o) := DAcc.alloc h o
theorem LAcc.below (h : LAcc W cb l v w) (hb : Below w.heap.size w w') : LAcc W cb l v w' := DAcc.below h hb
end

set_option maxRecDepth 100000 in
set_option maxHeartbeats 2000000 in
theorem l26Leases_any {W w : World} {cb : Nat} (h : DW W cb w) :
    Calls Try.prog 80 #[.pointer (some ⟨cb, 0, none⟩)] w fun e w' => ∃ (v : Value) (l : List Lease), e = .returned v ∧ l.length ≤ 21 ∧ LAcc W cb l v w' := by
  obtain ⟨i0, hi, hz0, hz1, hz2⟩ := info_parts Try.infoLease
  have H := Lib.hid h
  clear h
  go_enter Try.func80, Try.ntmps80
  have H0 := Lib.hid (LAcc.nil H.out rfl)
  go_wp2_with fail
  refine (de_below 7 (by omega) (by omega) H0.out.de).mono ?_
  rintro e w1 ⟨x, rfl, x0, x1, hd⟩
  have H1 := Lib.hid (H0.out.drew hd)
  clear hd
  go_wp2
  go_loopg [3, 4] 8 (fun gk v iv wr => ∃ (l : List Lease) (x : Int), x < gk ∧ 0 ≤ x ∧ x + l.length ≤ 6 ∧ iv = .int .i64 x ∧ Hid (LAcc W cb l v wr))
  case atStart => exact ⟨[], x, by omega, by omega, by simp; omega, rfl, H1⟩
  case round =>
    clear x0 x1
    obtain ⟨l, x, hgk, hx0, hx1, rfl, HA⟩ := hrel
    by_cases hp : 0 < x
    · skip
      go_wp2_with fail
      refine (de_below 30 (by omega) (by omega) HA.out.de).mono ?_
      rintro e w2 ⟨a, rfl, a0, a1, hd⟩
      have H2 := Lib.hid (HA.out.drew hd)
      clear hd
      go_wp2_with fail
      refine (de_below 6 (by omega) (by omega) H2.out.de).mono ?_
      rintro e w3 ⟨b, rfl, b0, b1, hd⟩
      have H3 := Lib.hid (H2.out.drew hd)
      clear hd
      go_wp2_with fail
      refine (de_below 20 (by omega) (by omega) H3.out.de).mono ?_
      rintro e w4 ⟨d, rfl, d0, d1, hd⟩
      have H4 := Lib.hid (H3.out.drew hd)
      clear hd
      go_wp2_with (at_builtin; refine wpList_append_dacc rfl _ _ 32 rfl 54 i0 (.agg #[.int .i64 0, .int .i64 0, .int .i64 0]) 3 24 Try.underlying32 hi hz0 hz1 hz2 rfl (by decide) _ _ _ rfl (DAcc.alloc H4.out _) _ 1 1 (Lease.enc ⟨b, a, a + d⟩) rfl rfl (rd_lit rfl) ?c1 ?c2 ?c3 ?_)
      case c1 => simp [Value.oneCell', Lease.enc]
      case c2 => unfold maxLen; (try simp only [List.length_append, List.length_cons, List.length_nil]); omega
      case c3 => (try simp only [List.length_append, List.length_cons, List.length_nil]); omega
      intro v' w5 h5 _
      have H5 := Lib.hid (LAcc.push h5)
      clear h5
      go_wp2
      go_roundg (gk - 1)
      case measure => omega
      case rel => exact ⟨_, x - 1, by omega, by omega, by simp; omega, by go_num, H5⟩
    · have hl6 : l.length ≤ 6 := by omega
      clear hx1 hgk
      go_wp2_with fail
      refine (de_below 20 (by omega) (by omega) HA.out.de).mono ?_
      rintro e w2 ⟨y, rfl, y0, y1, hd⟩
      have H2 := Lib.hid (HA.out.drew hd)
      clear hd
      obtain rfl | rfl | rfl | hy : y = 0 ∨ y = 1 ∨ y = 2 ∨ 3 ≤ y := by omega
      · go_wp2_with (at_builtin; refine wpList_append_dacc rfl _ _ 32 rfl 54 i0 (.agg #[.int .i64 0, .int .i64 0, .int .i64 0]) 3 24 Try.underlying32 hi hz0 hz1 hz2 rfl (by decide) _ _ _ rfl (DAcc.alloc H2.out _) _ 1 1 (Lease.enc ⟨-1, 0, 0⟩) rfl rfl (rd_lit rfl) ?p1 ?p2 ?p3 ?_)
        case p1 => simp [Value.oneCell', Lease.enc]
        case p2 => unfold maxLen; (try simp only [List.length_append, List.length_cons, List.length_nil]); omega
        case p3 => (try simp only [List.length_append, List.length_cons, List.length_nil]); omega
        intro v' w5 h5 _
        have H5 := Lib.hid (LAcc.push h5)
        clear h5
        go_wp2
        go_ret
        exact ⟨_, _, rfl, by simp; omega, H5.out⟩
      · go_wp2_with (at_builtin; refine wpList_append_dacc rfl _ _ 32 rfl 54 i0 (.agg #[.int .i64 0, .int .i64 0, .int .i64 0]) 3 24 Try.underlying32 hi hz0 hz1 hz2 rfl (by decide) _ _ _ rfl (DAcc.alloc H2.out _) _ 1 1 (Lease.enc ⟨0, 3, 2⟩) rfl rfl (rd_lit rfl) ?q1 ?q2 ?q3 ?_)
        case q1 => simp [Value.oneCell', Lease.enc]
        case q2 => unfold maxLen; (try simp only [List.length_append, List.length_cons, List.length_nil]); omega
        case q3 => (try simp only [List.length_append, List.length_cons, List.length_nil]); omega
        intro v' w5 h5 _
        have H5 := Lib.hid (LAcc.push h5)
        clear h5
        go_wp2
        go_ret
        exact ⟨_, _, rfl, by simp; omega, H5.out⟩
      · go_wp2
        go_loopg [3] 23 (fun gk v wr => ∃ (l : List Lease), 22 < gk + l.length ∧ l.length ≤ 21 ∧ Hid (LAcc W cb l v wr))
        case atStart => exact ⟨l, by omega, by omega, H2⟩
        case round =>
          obtain ⟨l, hgk, hl, HA⟩ := hrel
          obtain ⟨sa, sc, rfl, _⟩ := HA.out.slice
          go_wp2_with fail
          refine (de_below 2 (by omega) (by omega) HA.out.de).mono ?_
          rintro e w3 ⟨z, rfl, z0, z1, hd⟩
          have H3 := Lib.hid (HA.out.drew hd)
          clear hd
          by_cases hlt : (l.length : Int) < 20 + z
          · go_wp2_with (at_builtin; refine wpList_append_dacc rfl _ _ 32 rfl 54 i0 (.agg #[.int .i64 0, .int .i64 0, .int .i64 0]) 3 24 Try.underlying32 hi hz0 hz1 hz2 rfl (by decide) _ _ _ rfl (DAcc.alloc H3.out _) _ 1 1 (Lease.enc ⟨1000, 0, 1000000⟩) rfl rfl (rd_lit rfl) ?r1 ?r2 ?r3 ?_)
            case r1 => simp [Value.oneCell', Lease.enc]
            case r2 => unfold maxLen; (try simp only [List.length_append, List.length_cons, List.length_nil]); omega
            case r3 => (try simp only [List.length_append, List.length_cons, List.length_nil]); omega
            intro v' w5 h5 _
            have H5 := Lib.hid (LAcc.push h5)
            clear h5
            go_wp2
            go_roundg (gk - 1)
            case measure => omega
            case rel => exact ⟨_, by simp; omega, by simp; omega, H5⟩
          · go_wp2
            go_ret
            exact ⟨_, _, rfl, by omega, H3.out⟩
      · have d0 : (y == 0) = false := by simp; omega
        have d1 : (y == 1) = false := by simp; omega
        have d2 : (y == 2) = false := by simp; omega
        go_wp2
        go_ret
        exact ⟨_, _, rfl, by omega, H2.out⟩

set_option maxHeartbeats 800000 in
theorem drawPeak_any (a : Option Addr) (n cap : Nat) (l : List UInt8) (hn : n = l.length) (hl : n ≤ 1048576) (w : World) (h : Rd w a (byteCells l)) :
    Calls Try.prog 33 #[.slice a n cap] w fun e w' => ∃ (v : Value) (x : List Lease), e = .returned v ∧ x.length ≤ 21 ∧ w'.ownsRow w.heap.size 54 3 v x.length (x.flatMap Lease.enc) ∧ Below w.heap.size w w' := by
  have Hn := Lib.hid hn
  clear hn
  go_enter Try.func33, Try.ntmps33
  go_wp2_with fail
  refine (de_new a n cap l Hn.out hl _ h).mono ?_
  rintro e w1 ⟨rfl, hd, hb⟩
  have Hb := Lib.hid hb
  have Hd := Lib.hid hd
  clear hb hd
  go_wp2_with fail
  refine (l26Leases_any Hd.out).mono ?_
  rintro e w2 ⟨v, x, rfl, hx, hA⟩
  have HA := Lib.hid hA
  clear hA
  go_wp2
  go_ret
  exact ⟨v, x, rfl, hx, owns_mono HA.out.1 Hb.out.size, Hb.out.grown HA.out.2.1 Hb.out.size (fun k hk => by cases hk; exact Nat.le_refl _)⟩

/-- at(code, 0): a byte or so. -/
theorem at_any (a : Option Addr) (n cap : Nat) (l : List UInt8) (hn : n = l.length) (hl : n ≤ 1048576) (i : Nat) (hi : i ≤ 1000) (w : World) (h : Rd w a (byteCells l)) :
    Calls Try.prog 38 #[.slice a n cap, .int .i64 i] w fun e w' => ∃ x : Int, e = .returned (.int .i64 x) ∧ 0 ≤ x ∧ x ≤ 255 ∧ w = w' := by
  have Hn := Lib.hid hn
  clear hn
  by_cases hlt : i < n
  · obtain ⟨y, hy⟩ := some_at (l := l) (k := i) (by have := Hn.out; omega)
    obtain ⟨b, o, ha, hbw, g1⟩ := h.byte hy
    have hx8 := byte_le y
    subst ha
    clear hy
    go_enter Try.func38, Try.ntmps38
    go_wp2
    go_ret
    exact ⟨_, rfl, by omega, by omega, rfl⟩
  · go_enter Try.func38, Try.ntmps38
    go_wp2
    go_ret
    exact ⟨_, rfl, by omega, by omega, rfl⟩
end Go.Proofs.Ytclananddmjnaaa
