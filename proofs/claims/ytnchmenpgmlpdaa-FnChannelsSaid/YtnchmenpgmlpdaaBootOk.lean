/- BootOk of both sides. -/
import Derived.Test.YtnchmenpgmlpdaaAmtAdd
import Derived.Test.YtnchmenpgmlpdaaFlows
import Derived.Deep.LoopGhost
namespace Go.Proofs.Ytnchmenpgmlpdaa
open Go.RowKit

structure Boot where
  lv : List Int
  own : List Int
  a : Amt
instance : Inhabited Boot := ⟨⟨[], [], ⟨0, 0, 0⟩⟩⟩
def Boot.cells (x : Boot) (vl vo : Value) : List Value := [vl, vo, .int .i64 x.a.p, .int .i64 x.a.r, .int .i64 x.a.c]
/-- What a row of boots reads as. -/
def BootsRd (w : World) (p : Option Addr) (l : List Boot) : Prop :=
  ∀ (k : Nat) (x : Boot), l[k]? = some x → ∃ b o al cl ao co, p = some ⟨b, o, none⟩ ∧ b < w.heap.size ∧ Rd w al (icell x.lv) ∧ Rd w ao (icell x.own) ∧ x.lv.length ≤ maxLen ∧ x.own.length ≤ maxLen ∧
    w.cell? ⟨b, o + k * 5, none⟩ = some (.slice al x.lv.length cl) ∧ w.cell? ⟨b, o + k * 5 + 1, none⟩ = some (.slice ao x.own.length co) ∧ w.cell? ⟨b, o + k * 5 + 2, none⟩ = some (.int .i64 x.a.p) ∧ w.cell? ⟨b, o + k * 5 + 3, none⟩ = some (.int .i64 x.a.r) ∧ w.cell? ⟨b, o + k * 5 + 4, none⟩ = some (.int .i64 x.a.c)
theorem BootsRd.below {w w' : World} {p : Option Addr} {l : List Boot} (h : BootsRd w p l) (hb : Below w.heap.size w w') : BootsRd w' p l := by
  intro k x hx
  obtain ⟨b, o, al, cl, ao, co, rfl, hlt, r1, r2, m1, m2, c0, c1, c2, c3, c4⟩ := h k x hx
  have hs := hb.size
  exact ⟨b, o, al, cl, ao, co, rfl, by omega, r1.below hb, r2.below hb, m1, m2, (hb.cell (p := ⟨b, _, none⟩) hlt).trans c0, (hb.cell (p := ⟨b, _, none⟩) hlt).trans c1, (hb.cell (p := ⟨b, _, none⟩) hlt).trans c2, (hb.cell (p := ⟨b, _, none⟩) hlt).trans c3, (hb.cell (p := ⟨b, _, none⟩) hlt).trans c4⟩
theorem BootsRd.drewN {w : World} {p : Option Addr} {l : List Boot} (h : BootsRd w p l) (n : Nat) : BootsRd (w.drewN n) p l := h
def bootGo : Amt → List Boot → Bool
  | _, [] => true
  | s, x :: l => (amtAddB s x.a).2 && (labelOk x.lv && (ownOk x.own && bootGo (amtAddB s x.a).1 l))
def bootOk (l : List Boot) : Bool := bootGo ⟨0, 0, 0⟩ l && inB l.length 1 3
theorem boot_bad {l : List Boot} {s : Amt} {k : Nat} {x : Boot} (h : bootGo ⟨0, 0, 0⟩ l = bootGo s (l.drop k)) (hx : l[k]? = some x) (hb : (amtAddB s x.a).2 = false ∨ labelOk x.lv = false ∨ ownOk x.own = false) : bootOk l = false := by
  unfold bootOk
  rw [h, drop_cons hx, bootGo]
  rcases hb with hb | hb | hb <;> rw [hb] <;> simp
theorem boot_good {l : List Boot} {s : Amt} {k : Nat} {x : Boot} (h : bootGo ⟨0, 0, 0⟩ l = bootGo s (l.drop k)) (hx : l[k]? = some x) (h1 : (amtAddB s x.a).2 = true) (h2 : labelOk x.lv = true) (h3 : ownOk x.own = true) : bootGo ⟨0, 0, 0⟩ l = bootGo (amtAddB s x.a).1 (l.drop (k + 1)) := by
  rw [h, drop_cons hx, bootGo, h1, h2, h3]
  rfl
theorem boot_end {l : List Boot} {s : Amt} {k : Nat} (h : bootGo ⟨0, 0, 0⟩ l = bootGo s (l.drop k)) (hk : l.length ≤ k) : bootOk l = inB l.length 1 3 := by
  unfold bootOk
  rw [h, List.drop_eq_nil_of_le hk, bootGo, Bool.true_and]
set_option maxRecDepth 100000 in
set_option maxHeartbeats 4000000 in
theorem implBootOk_any (l : List Boot) (p : Option Addr) (c : Nat) (hl : l.length ≤ maxLen) (w : World) (h : BootsRd w p l) :
    Calls Try.prog 71 #[.slice p l.length c] w fun e w' => e = .returned (.bool (bootOk l)) ∧ Below w.heap.size w w' := by
  have hl63 := hl
  unfold maxLen at hl63
  have HR := hideP h
  clear h
  have S0 : Hid (Blk (w.alloc (.cells #[.int .i64 (⟨0, 0, 0⟩ : Amt).p, .int .i64 (⟨0, 0, 0⟩ : Amt).r, .int .i64 (⟨0, 0, 0⟩ : Amt).c] 43)) w.heap.size 43 [.int .i64 (⟨0, 0, 0⟩ : Amt).p, .int .i64 (⟨0, 0, 0⟩ : Amt).r, .int .i64 (⟨0, 0, 0⟩ : Amt).c]) := hideP (Blk.new w #[.int .i64 (⟨0, 0, 0⟩ : Amt).p, .int .i64 (⟨0, 0, 0⟩ : Amt).r, .int .i64 (⟨0, 0, 0⟩ : Amt).c] 43)
  have HB := hideP (below_a1 w (.cells #[.int .i64 (⟨0, 0, 0⟩ : Amt).p, .int .i64 (⟨0, 0, 0⟩ : Amt).r, .int .i64 (⟨0, 0, 0⟩ : Amt).c] 43))
  go_enter Try.func71, Try.ntmps71
  go_wp2
  go_loopg [11] (l.length + 1) (fun gk i wr => ∃ (k : Nat) (s : Amt), l.length < gk + k ∧ k ≤ l.length ∧ i = .int .i64 (k : Int) ∧ Hid (bootGo ⟨0, 0, 0⟩ l = bootGo s (l.drop k)) ∧ Hid (Blk wr w.heap.size 43 [.int .i64 s.p, .int .i64 s.r, .int .i64 s.c]) ∧ Hid (Below w.heap.size w wr))
  case atStart => exact ⟨0, ⟨0, 0, 0⟩, by omega, by omega, rfl, hideP rfl, S0, HB⟩
  case round =>
    clear S0 HB
    obtain ⟨k, s, hgk, hk, rfl, hg, S0, HB⟩ := hrel
    by_cases hlt : k < l.length
    · obtain ⟨x, hx⟩ := some_at (l := l) (k := k) hlt
      obtain ⟨b, o, al, cl, ao, co, rfl, hbw, r1, r2, m1, m2, g0, g1, g2, g3, g4⟩ := HR.out.below HB.out k x hx
      have k0 : (0 : Int) ≤ (k : Int) := by omega
      have k1 : (k : Int) < (l.length : Int) := by omega
      have sw : w.heap.size < wr.heap.size := S0.out.lt
      go_upto_region 5 with fail
      have X0 := hideP (Blk.new wr #[.slice al x.lv.length cl, .slice ao x.own.length co, .int .i64 x.a.p, .int .i64 x.a.r, .int .i64 x.a.c] 45)
      have S0 := hideP (S0.out.alloc (.cells #[.slice al x.lv.length cl, .slice ao x.own.length co, .int .i64 x.a.p, .int .i64 x.a.r, .int .i64 x.a.c] 45))
      have HB := hideP (HB.out.alloc HB.out.size (.cells #[.slice al x.lv.length cl, .slice ao x.own.length co, .int .i64 x.a.p, .int .i64 x.a.r, .int .i64 x.a.c] 45))
      have q1 := hideP (r1.below (below_a1 wr (.cells #[.slice al x.lv.length cl, .slice ao x.own.length co, .int .i64 x.a.p, .int .i64 x.a.r, .int .i64 x.a.c] 45)))
      have q2 := hideP (r2.below (below_a1 wr (.cells #[.slice al x.lv.length cl, .slice ao x.own.length co, .int .i64 x.a.p, .int .i64 x.a.r, .int .i64 x.a.c] 45)))
      clear r1 r2 g0 g1 g2 g3 g4
      obtain ⟨W, hW⟩ : ∃ W, W = wr.alloc (.cells #[.slice al x.lv.length cl, .slice ao x.own.length co, .int .i64 x.a.p, .int .i64 x.a.r, .int .i64 x.a.c] 45) := ⟨_, rfl⟩
      rw [← hW] at X0 S0 HB q1 q2 ⊢
      clear hW
      have x2 : W.cell? ⟨wr.heap.size, 2, none⟩ = some (.int .i64 x.a.p) := (X0.out.cell 2).trans rfl
      have x3 : W.cell? ⟨wr.heap.size, 3, none⟩ = some (.int .i64 x.a.r) := (X0.out.cell 3).trans rfl
      have x4 : W.cell? ⟨wr.heap.size, 4, none⟩ = some (.int .i64 x.a.c) := (X0.out.cell 4).trans rfl
      have s0 : W.cell? ⟨w.heap.size, 0, none⟩ = some (.int .i64 s.p) := (S0.out.cell 0).trans rfl
      have s1 : W.cell? ⟨w.heap.size, 1, none⟩ = some (.int .i64 s.r) := (S0.out.cell 1).trans rfl
      have s2 : W.cell? ⟨w.heap.size, 2, none⟩ = some (.int .i64 s.c) := (S0.out.cell 2).trans rfl
      go_wp2_with fail
      refine (implAmtAdd_any s x.a _).mono ?_
      rintro e w1 ⟨rfl, hb1⟩
      have X0 := hideP (X0.out.below hb1)
      have S0 := hideP (S0.out.below hb1)
      have HB := hideP (HB.out.trans (hb1.mono HB.out.size))
      have q1 := hideP (q1.out.below hb1)
      have q2 := hideP (q2.out.below hb1)
      clear hb1 x2 x3 x4 s0 s1 s2
      obtain ⟨⟨nx, nb⟩, hN⟩ : ∃ y, amtAddB s x.a = y := ⟨_, rfl⟩
      have HN := hideP hN
      rw [hN]
      clear hN
      dsimp only
      go_upto_region 6 with fail
      have N0 := hideP (Blk.new w1 #[.int .i64 nx.p, .int .i64 nx.r, .int .i64 nx.c] 43)
      have X0 := hideP (X0.out.alloc (.cells #[.int .i64 nx.p, .int .i64 nx.r, .int .i64 nx.c] 43))
      have S0 := hideP (S0.out.alloc (.cells #[.int .i64 nx.p, .int .i64 nx.r, .int .i64 nx.c] 43))
      have HB := hideP (HB.out.alloc HB.out.size (.cells #[.int .i64 nx.p, .int .i64 nx.r, .int .i64 nx.c] 43))
      have q1 := hideP (q1.out.below (below_a1 w1 (.cells #[.int .i64 nx.p, .int .i64 nx.r, .int .i64 nx.c] 43)))
      have q2 := hideP (q2.out.below (below_a1 w1 (.cells #[.int .i64 nx.p, .int .i64 nx.r, .int .i64 nx.c] 43)))
      obtain ⟨W1, hW⟩ : ∃ W, W = w1.alloc (.cells #[.int .i64 nx.p, .int .i64 nx.r, .int .i64 nx.c] 43) := ⟨_, rfl⟩
      rw [← hW] at N0 X0 S0 HB q1 q2 ⊢
      clear hW
      have x0 : W1.cell? ⟨wr.heap.size, 0, none⟩ = some (.slice al x.lv.length cl) := (X0.out.cell 0).trans rfl
      have x1 : W1.cell? ⟨wr.heap.size, 1, none⟩ = some (.slice ao x.own.length co) := (X0.out.cell 1).trans rfl
      cases nb
      · have HF : Hid (bootOk l = false) := hideP (boot_bad hg.out hx (.inl (by rw [HN.out])))
        clear hx hg
        go_wp2
        go_ret
        exact ⟨ret_bool HF.out.symm, HB.out⟩
      · go_wp2_with fail
        refine (implLabelOk_any x.lv al cl m1 _ q1.out).mono ?_
        rintro e w2 ⟨rfl, hb2⟩
        have X0 := hideP (X0.out.below hb2)
        have N0 := hideP (N0.out.below hb2)
        have S0 := hideP (S0.out.below hb2)
        have HB := hideP (HB.out.trans (hb2.mono HB.out.size))
        have q2 := hideP (q2.out.below hb2)
        clear hb2 x0 x1 q1
        have x1 : w2.cell? ⟨wr.heap.size, 1, none⟩ = some (.slice ao x.own.length co) := (X0.out.cell 1).trans rfl
        cases tl : labelOk x.lv
        · have HF : Hid (bootOk l = false) := hideP (boot_bad hg.out hx (.inr (.inl tl)))
          clear hx hg
          go_wp2
          go_ret
          exact ⟨ret_bool HF.out.symm, HB.out⟩
        · go_wp2_with fail
          refine (implOwnOk_any x.own ao co m2 _ q2.out).mono ?_
          rintro e w3 ⟨rfl, qq3⟩
          have hb3 := qq3.below w2.heap.size
          have N0 := hideP (N0.out.below hb3)
          have S0 := hideP (S0.out.below hb3)
          have HB := hideP (HB.out.trans (hb3.mono HB.out.size))
          clear hb3 x1 q2 qq3 X0
          cases tn : ownOk x.own
          · have HF : Hid (bootOk l = false) := hideP (boot_bad hg.out hx (.inr (.inr tn)))
            clear hx hg
            go_wp2
            go_ret
            exact ⟨ret_bool HF.out.symm, HB.out⟩
          · have HG : Hid (bootGo ⟨0, 0, 0⟩ l = bootGo nx (l.drop (k + 1))) := hideP (by have := boot_good hg.out hx (by rw [HN.out]) tl tn; rwa [HN.out] at this)
            clear hx hg tl tn
            have n0 : w3.cell? ⟨w1.heap.size, 0, none⟩ = some (.int .i64 nx.p) := (N0.out.cell 0).trans rfl
            have s0 : w3.cell? ⟨w.heap.size, 0, none⟩ = some (.int .i64 s.p) := (S0.out.cell 0).trans rfl
            have f0 : w3.frozen? ⟨w.heap.size, 0, none⟩ = false := S0.out.frozen 0
            have n1 : w3.cell? ⟨w1.heap.size, 1, none⟩ = some (.int .i64 nx.r) := (N0.out.cell 1).trans rfl
            have s1 : w3.cell? ⟨w.heap.size, 1, none⟩ = some (.int .i64 s.r) := (S0.out.cell 1).trans rfl
            have f1 : w3.frozen? ⟨w.heap.size, 1, none⟩ = false := S0.out.frozen 1
            have n2 : w3.cell? ⟨w1.heap.size, 2, none⟩ = some (.int .i64 nx.c) := (N0.out.cell 2).trans rfl
            have s2 : w3.cell? ⟨w.heap.size, 2, none⟩ = some (.int .i64 s.c) := (S0.out.cell 2).trans rfl
            have f2 : w3.frozen? ⟨w.heap.size, 2, none⟩ = false := S0.out.frozen 2
            have S1 : Hid (Blk (((w3.setCell ⟨w.heap.size, 0, none⟩ (.int .i64 nx.p)).setCell ⟨w.heap.size, 1, none⟩ (.int .i64 nx.r)).setCell ⟨w.heap.size, 2, none⟩ (.int .i64 nx.c)) w.heap.size 43 [.int .i64 nx.p, .int .i64 nx.r, .int .i64 nx.c]) := hideP (((S0.out.set 0 (.int .i64 nx.p)).set 1 (.int .i64 nx.r)).set 2 (.int .i64 nx.c))
            have HB1 : Hid (Below w.heap.size w (((w3.setCell ⟨w.heap.size, 0, none⟩ (.int .i64 nx.p)).setCell ⟨w.heap.size, 1, none⟩ (.int .i64 nx.r)).setCell ⟨w.heap.size, 2, none⟩ (.int .i64 nx.c))) := hideP (((HB.out.setCell (p := ⟨w.heap.size, 0, none⟩) (by simp) _).setCell (p := ⟨w.heap.size, 1, none⟩) (by simp) _).setCell (p := ⟨w.heap.size, 2, none⟩) (by simp) _)
            clear S0 HB N0
            go_wp2
            go_roundg (gk - 1)
            case measure => omega
            case rel => exact ⟨k + 1, nx, by omega, by omega, by go_num, HG, S1, HB1⟩
    · have HN := hideP (boot_end hg.out (by omega))
      have d1 : ¬ ((k : Int) < (l.length : Int)) := by omega
      clear hg
      go_wp2_with fail
      refine (within_any _ _ _ _).mono ?_
      rintro e w' ⟨rfl, rfl⟩
      go_wp2
      go_ret
      exact ⟨ret_bool HN.out.symm, HB.out⟩

end Go.Proofs.Ytnchmenpgmlpdaa
