/- Nodes drawn. -/
import Derived.Test.YtclananddmjnaaaDrawEnv
import Derived.Test.YtclananddmjnaaaChargeSpec
import Derived.Test.YtclananddmjnaaaRefundSpec
import Derived.Test.YtclananddmjnaaaAddSpec
import Derived.Deep.LoopGhost
namespace Go.Proofs.Ytclananddmjnaaa
open Go.RowKit


def NAcc (W : World) (cb : Nat) (l : List Node) (v : Value) (w : World) : Prop := DAcc W cb 69 3 l.length (l.flatMap Node.enc) v w
section
variable {W w w' : World} {cb : Nat} {l : List Node} {v : Value}
theorem NAcc.nil (h : DW W cb w) {g : Nat} (hg : g = w.heap.size) : NAcc W cb [] (.slice (some ⟨g, 0, none⟩) 0 0) (w.alloc (.cells #[] 69)) := DAcc.nil h hg
theorem NAcc.push {x : Node} (h : DAcc W cb 69 3 (l.length + 1) (l.flatMap Node.enc ++ x.enc) v w) : NAcc W cb (l ++ [x]) v w := by
  unfold NAcc
  simpa using h
theorem NAcc.drew (h : NAcc W cb l v w) (hd : Drew W cb w w') : NAcc W cb l v w' := DAcc.drew h hd
theorem NAcc.de (h : NAcc W cb l v w) : DE W cb w := DAcc.de h
theorem NAcc.dw (h : NAcc W cb l v w) : DW W cb w := DAcc.dw h
theorem NAcc.slice (h : NAcc W cb l v w) : ∃ a c, v = .slice a l.length c ∧ Rd w a (l.flatMap Node.enc) := DAcc.slice h
theorem NAcc.alloc (h : NAcc W cb l v w) (o : Obj) : NAcc W cb l v (w.alloc o) := DAcc.alloc h o
theorem NAcc.below (h : NAcc W cb l v w) (hb : Below w.heap.size w w') : NAcc W cb l v w' := DAcc.below h hb
end

def NodesDrawn (W : World) (cb lo : Nat) (e : Ending) (w' : World) : Prop := ∃ (v : Value) (l : List Node), e = .returned v ∧ lo ≤ l.length ∧ l.length ≤ 14 ∧ NAcc W cb l v w'
theorem NAcc.of {W w w' : World} {cb n : Nat} {l : List Node} {v : Value} (h : DW W cb w) (hn : n = l.length) (ho : w'.ownsRow w.heap.size 69 3 v n (l.flatMap Node.enc)) (hb : Below w.heap.size w w') : NAcc W cb l v w' := by
  subst hn
  exact DAcc.of h ho hb
theorem NAcc.set {W w : World} {cb g c n : Nat} {l : List Node} (h : NAcc W cb l (.slice (some ⟨g, 0, none⟩) n c) w) (hn : n = l.length) (hg : W.heap.size ≤ g) {k : Nat} {x x' : Node} {j : Nat} {u : Value} (hx : l[k]? = some x) (hj : j < 3) (he : x'.enc = x.enc.set j u) :
    NAcc W cb (l.set k x') (.slice (some ⟨g, 0, none⟩) n c) (w.setCell ⟨g, k * 3 + j, none⟩ u) := by
  subst hn
  unfold NAcc
  rw [List.length_set]
  exact DAcc.setField Node.enc_len h hg hx hj he

set_option maxHeartbeats 800000 in
theorem quotaNew_any (m : Int) (hm : 0 ≤ m ∧ m ≤ 1000000) (w : World) : Calls Try.prog 125 #[.int .i64 m] w (OwnRet2 w 69 3 1 (([⟨-1, m, 0⟩] : List Node).flatMap Node.enc) true) := by
  have hm' := inB_true.2 hm
  obtain ⟨m0, m1⟩ := hm
  go_enter Try.func125, Try.ntmps125
  go_wp2_with (go_at_call 94; refine (l5In_any _ _).mono ?_; rintro e w' ⟨rfl, rfl⟩)
  go_ret2
  exact ⟨_, rfl, owns_lit (Nat.le_refl _) rfl (by decide) rfl rfl, below_a1 _ _⟩

theorem de_once {W w : World} {cb : Nat} (m : Int) (hm0 : 1 ≤ m) (hm : m ≤ 256) (h : DE W cb w) :
    Calls Try.prog 126 #[.pointer (some ⟨cb, 0, none⟩), .int .i64 m] w (DrawnB W cb w) := by
  go_enter Try.func126, Try.ntmps126
  go_wp2_with fail
  refine (de_below m hm0 hm h).mono ?_
  rintro e w1 ⟨x, rfl, x0, x1, hd⟩
  go_wp2
  go_ret
  exact ⟨_, rfl, hd⟩

set_option maxRecDepth 100000 in
set_option maxHeartbeats 4000000 in
theorem l20Quota_any {W w : World} {cb : Nat} (h : DW W cb w) :
    Calls Try.prog 116 #[.pointer (some ⟨cb, 0, none⟩)] w (NodesDrawn W cb 1) := by
  have H := Lib.hid h
  clear h
  go_enter Try.func116, Try.ntmps116
  go_wp2_with fail
  refine (de_below 60 (by omega) (by omega) H.out.de).mono ?_
  rintro e w1 ⟨x, rfl, x0, x1, hd⟩
  have H1 := Lib.hid (H.out.drew hd)
  clear hd
  go_wp2_with fail
  refine (quotaNew_any (10 + x) (by omega) _).mono ?_
  rintro e w2 ⟨v, rfl, ho, hb⟩
  have H2 := Lib.hid (NAcc.of H1.out rfl ho hb)
  clear ho hb
  go_wp2_with fail
  refine (de_below 14 (by omega) (by omega) H2.out.de).mono ?_
  rintro e w3 ⟨y, rfl, y0, y1, hd⟩
  have H3 := Lib.hid (H2.out.drew hd)
  clear hd
  go_wp2
  go_loopg [3, 5] 16 (fun gk v iv wr => ∃ (l : List Node) (x : Int), x < gk ∧ 0 ≤ x ∧ 1 ≤ l.length ∧ x + l.length ≤ 14 ∧ iv = .int .i64 x ∧ Hid (NAcc W cb l v wr))
  case atStart => exact ⟨_, y, by omega, by omega, by simp, by simp; omega, rfl, H3⟩
  case round =>
    clear x0 x1 y0 y1
    obtain ⟨l, x, hgk, hx0, hl1, hx1, rfl, HA⟩ := hrel
    by_cases hp : 0 < x
    · obtain ⟨sa, sc, rfl, _⟩ := HA.out.slice
      have hln : l.length ≤ 1048576 := by omega
      go_wp2_with fail
      refine (de_below (l.length : Int) (by omega) (by omega) HA.out.de).mono ?_
      rintro e w3 ⟨k, rfl, k0, k1, hd⟩
      have H3 := Lib.hid (HA.out.drew hd)
      clear hd
      go_wp2_with fail
      refine (de_once 3 (by omega) (by omega) H3.out.de).mono ?_
      rintro e w4 ⟨b, rfl, hd⟩
      have H4 := Lib.hid (H3.out.drew hd)
      clear hd
      cases b
      · go_wp2_with fail
        refine (de_once 4 (by omega) (by omega) H4.out.de).mono ?_
        rintro e w5 ⟨b, rfl, hd⟩
        have H5 := Lib.hid (H4.out.drew hd)
        clear hd
        cases b
        · skip
          go_wp2_with fail
          refine (de_below 9 (by omega) (by omega) H5.out.de).mono ?_
          rintro e w6 ⟨m, rfl, m0, m1, hd⟩
          have H6 := Lib.hid (H5.out.drew hd)
          clear hd
          go_wp2_with fail
          refine (specCharge_any _ _ _ l k m rfl hln _ (rd_of_owns H6.out.1)).mono ?_
          rintro e w7 ⟨v', rfl, ho, hb⟩
          have hle := charge_len l k m
          have H7 := Lib.hid (NAcc.of (H6.out.dw) hle.symm ho hb)
          clear ho hb
          generalize (charge l k m).1 = l' at hle H7 ⊢
          generalize (charge l k m).2 = b' at H7 ⊢
          have hle1 : l'.length ≤ l.length := by omega
          have hle2 : 1 ≤ l'.length := by omega
          clear hle
          go_wp2
          go_roundg (gk - 1)
          case measure => omega
          case rel => exact ⟨l', x - 1, by omega, by omega, hle2, by omega, by go_num, H7⟩
        · skip
          go_wp2_with fail
          refine (de_below 6 (by omega) (by omega) H5.out.de).mono ?_
          rintro e w6 ⟨m, rfl, m0, m1, hd⟩
          have H6 := Lib.hid (H5.out.drew hd)
          clear hd
          go_wp2_with fail
          refine (specRefund_any _ _ _ l k m rfl hln _ (rd_of_owns H6.out.1)).mono ?_
          rintro e w7 ⟨v', rfl, ho, hb⟩
          have hle := refund_len l k m
          have H7 := Lib.hid (NAcc.of (H6.out.dw) hle.symm ho hb)
          clear ho hb
          generalize (refund l k m).1 = l' at hle H7 ⊢
          generalize (refund l k m).2 = b' at H7 ⊢
          have hle1 : l'.length ≤ l.length := by omega
          have hle2 : 1 ≤ l'.length := by omega
          clear hle
          go_wp2
          go_roundg (gk - 1)
          case measure => omega
          case rel => exact ⟨l', x - 1, by omega, by omega, hle2, by omega, by go_num, H7⟩
      · skip
        go_wp2_with fail
        refine (de_below 40 (by omega) (by omega) H4.out.de).mono ?_
        rintro e w6 ⟨m, rfl, m0, m1, hd⟩
        have H6 := Lib.hid (H4.out.drew hd)
        clear hd
        go_wp2_with fail
        refine (specQuotaAdd_any _ _ _ l k m rfl hln _ (rd_of_owns H6.out.1)).mono ?_
        rintro e w7 ⟨v', rfl, ho, hb⟩
        have hle1 := quotaAdd_len l k m
        have hle2 := quotaAdd_ge l k m
        have H7 := Lib.hid (NAcc.of (H6.out.dw) rfl ho hb)
        clear ho hb
        generalize (quotaAdd l k m).1 = l' at hle1 hle2 H7 ⊢
        generalize (quotaAdd l k m).2 = b' at H7 ⊢
        go_wp2
        go_roundg (gk - 1)
        case measure => omega
        case rel => exact ⟨l', x - 1, by omega, by omega, by omega, by omega, by go_num, H7⟩
    · go_wp2
      go_ret
      exact ⟨_, l, rfl, by omega, by omega, HA.out⟩

set_option maxRecDepth 100000 in
set_option maxHeartbeats 4000000 in
theorem l20Any_any {W w : World} {cb : Nat} (h : DW W cb w) :
    Calls Try.prog 91 #[.pointer (some ⟨cb, 0, none⟩)] w (NodesDrawn W cb 0) := by
  obtain ⟨i0, hi, hz0, hz1, hz2⟩ := info_parts Try.infoNode
  have H := Lib.hid h
  clear h
  go_enter Try.func91, Try.ntmps91
  go_wp2_with fail
  refine (l20Quota_any H.out).mono ?_
  rintro e w1 ⟨v, l, rfl, hl1, hl2, hA⟩
  have H1 := Lib.hid hA
  clear hA
  obtain ⟨g, c, rfl, hg, _⟩ := DAcc.block H1.out (by omega)
  go_wp2_with fail
  refine (de_below (l.length : Int) (by omega) (by omega) H1.out.de).mono ?_
  rintro e w2 ⟨kk, rfl, kk0, kk1, hd⟩
  have H2 := Lib.hid (H1.out.drew hd)
  clear hd
  go_wp2_with fail
  refine (de_below 14 (by omega) (by omega) H2.out.de).mono ?_
  rintro e w3 ⟨y, rfl, y0, y1, hd⟩
  have H3 := Lib.hid (H2.out.drew hd)
  clear hd
  obtain ⟨k, rfl⟩ := Int.eq_ofNat_of_zero_le kk0
  have hk : k < l.length := by omega
  obtain ⟨x, hx⟩ := some_at hk
  have Hx := Lib.hid hx
  clear hx
  obtain rfl | rfl | rfl | rfl | rfl | hy : y = 0 ∨ y = 1 ∨ y = 2 ∨ y = 3 ∨ y = 4 ∨ 5 ≤ y := by omega
  · obtain ⟨c0, f0⟩ := DAcc.cell Node.enc_len (j := 2) H3.out Hx.out rfl
    go_wp2
    go_ret
    exact ⟨_, _, rfl, Nat.zero_le _, by rw [List.length_set]; omega, H3.out.set rfl hg (x' := ⟨x.p, x.l, wrap64 (x.u + 3)⟩) (j := 2) Hx.out (by decide) rfl⟩
  · skip
    go_wp2_with fail
    refine (de_below 9 (by omega) (by omega) H3.out.de).mono ?_
    rintro e w4 ⟨z, rfl, z0, z1, hd⟩
    have H4 := Lib.hid (H3.out.drew hd)
    clear hd
    obtain ⟨c0, f0⟩ := DAcc.cell Node.enc_len (j := 0) H4.out Hx.out rfl
    simp only [Nat.add_zero] at c0 f0
    go_wp2
    go_ret
    exact ⟨_, _, rfl, Nat.zero_le _, by rw [List.length_set]; omega, H4.out.set rfl hg (x' := ⟨z - 1, x.l, x.u⟩) (j := 0) Hx.out (by decide) rfl⟩
  · have hcap : l.length ≤ c := by
      obtain ⟨a', c', he, h'⟩ := owns_slice H3.out.1
      cases he
      exact h'
    have hkc : k ≤ c := by omega
    go_wp2
    go_ret
    refine ⟨_, l.take k, rfl, Nat.zero_le _, by rw [List.length_take]; omega, ?_⟩
    have h2 := (DAcc.take H3.out (k := k) (by omega)).cast (n' := (l.take k).length) (by rw [List.length_take]; omega)
    exact h2.castx (take_rows Node.enc_len l k)
  · go_wp2
    go_loopg [3] 16 (fun gk v wr => ∃ (l : List Node), 15 < gk + l.length ∧ l.length ≤ 14 ∧ Hid (NAcc W cb l v wr))
    case atStart => exact ⟨l, by omega, by omega, H3⟩
    case round =>
      clear hl1 hl2 hk hg kk0 kk1
      obtain ⟨l, hgk, hl, HA⟩ := hrel
      obtain ⟨sa, sc, rfl, _⟩ := HA.out.slice
      go_wp2_with fail
      refine (de_below 2 (by omega) (by omega) HA.out.de).mono ?_
      rintro e w3 ⟨z, rfl, z0, z1, hd⟩
      have H4 := Lib.hid (HA.out.drew hd)
      clear hd
      by_cases hlt : (l.length : Int) < 8 + z
      · go_wp2_with (at_builtin; refine wpList_append_dacc rfl _ _ 25 rfl 69 i0 (.agg #[.int .i64 0, .int .i64 0, .int .i64 0]) 3 24 Try.underlying25 hi hz0 hz1 hz2 rfl (by decide) _ _ _ rfl (DAcc.alloc H4.out _) _ 1 1 (Node.enc ⟨0, 0, 0⟩) rfl rfl (rd_lit rfl) ?r1 ?r2 ?r3 ?_)
        case r1 => simp [Value.oneCell', Node.enc]
        case r2 => unfold maxLen; (try simp only [List.length_append, List.length_cons, List.length_nil]); omega
        case r3 => (try simp only [List.length_append, List.length_cons, List.length_nil]); omega
        intro v' w5 h5 _
        have H5 := Lib.hid (NAcc.push h5)
        clear h5
        go_wp2
        go_roundg (gk - 1)
        case measure => omega
        case rel => exact ⟨_, by simp; omega, by simp; omega, H5⟩
      · go_wp2
        go_ret
        exact ⟨_, _, rfl, Nat.zero_le _, by omega, H4.out⟩
  · have hcb := H3.out.de.lt
    obtain ⟨hcb1, hcb2⟩ := hcb
    go_wp2_with fail
    refine (de_pick [-1, 1000000, 1000001] 3 rfl (by decide) (by decide) (H3.out.alloc _).de (lit_cells _ [-1, 1000000, 1000001] 3) (by omega)).mono ?_
    rintro e w4 ⟨z, _, rfl, hd⟩
    have H4 := Lib.hid ((H3.out.alloc _).drew hd)
    clear hd
    obtain ⟨c0, f0⟩ := DAcc.cell Node.enc_len (j := 1) H4.out Hx.out rfl
    go_wp2
    go_ret
    exact ⟨_, _, rfl, Nat.zero_le _, by rw [List.length_set]; omega, H4.out.set rfl hg (x' := ⟨x.p, z, x.u⟩) (j := 1) Hx.out (by decide) rfl⟩
  · have d0 : (y == 0) = false := by simp; omega
    have d1 : (y == 1) = false := by simp; omega
    have d2 : (y == 2) = false := by simp; omega
    have d3 : (y == 3) = false := by simp; omega
    have d4 : (y == 4) = false := by simp; omega
    go_wp2
    go_ret
    exact ⟨_, l, rfl, Nat.zero_le _, by omega, H3.out⟩

set_option maxRecDepth 100000 in
set_option maxHeartbeats 2000000 in
theorem drawCharge_any (a : Option Addr) (n cap : Nat) (l : List UInt8) (hn : n = l.length) (hl : n ≤ 1048576) (w : World) (h : Rd w a (byteCells l)) :
    Calls Try.prog 53 #[.slice a n cap] w fun e w' => ∃ (v : Value) (x : List Node) (i m : Int), e = .returned (.tuple #[v, .int .i64 i, .int .i64 m]) ∧ x.length ≤ 14 ∧ w'.ownsRow w.heap.size 69 3 v x.length (x.flatMap Node.enc) ∧ Below w.heap.size w w' := by
  have Hn := Lib.hid hn
  clear hn
  go_enter Try.func53, Try.ntmps53
  go_wp2_with fail
  refine (de_new a n cap l Hn.out hl _ h).mono ?_
  rintro e W ⟨rfl, hd, hb⟩
  have Hb := Lib.hid hb
  have Hd := Lib.hid hd
  clear hb hd
  go_wp2_with fail
  refine (l20Any_any Hd.out).mono ?_
  rintro e w2 ⟨v, x, rfl, _, hx, hA⟩
  have H2 := Lib.hid hA
  clear hA
  go_wp2_with fail
  refine (de_below 10 (by omega) (by omega) H2.out.de).mono ?_
  rintro e w3 ⟨y, rfl, y0, y1, hd⟩
  have H3 := Lib.hid (H2.out.drew hd)
  clear hd
  have hcb := H3.out.de.lt
  obtain ⟨hcb1, hcb2⟩ := hcb
  go_wp2_with fail
  refine (de_pick [0, 1, 3, 9, 40, -1, 9223372036854775807] 7 rfl (by decide) (by decide) (H3.out.alloc _).de (lit_cells _ [0, 1, 3, 9, 40, -1, 9223372036854775807] 3) (by omega)).mono ?_
  rintro e w4 ⟨z, _, rfl, hd⟩
  have H4 := Lib.hid ((H3.out.alloc _).drew hd)
  clear hd
  go_wp2
  go_ret3
  exact ⟨v, x, _, z, rfl, hx, owns_mono H4.out.1 Hb.out.size, Hb.out.grown H4.out.2.1 Hb.out.size (fun k hk => by cases hk; exact Nat.le_refl _)⟩
end Go.Proofs.Ytclananddmjnaaa
