/- []PartBoot: the data owned; sz. -/
import Derived.Test.YtnchmenpgmlpdaaRowsOwn
import Derived.Test.YtnchmenpgmlpdaaBootOk
import Derived.Test.YtnchmenpgmlpdaaMsgTo
import Derived.Deep.LoopGhost
namespace Go.Proofs.Ytnchmenpgmlpdaa
open Go.RowKit

/-- A boot whose lists are the call's own. -/
structure BootOwn (w : World) (base : Nat) (x : Boot) (vl vo : Value) : Prop where
  l : w.ownsRow base 3 1 vl x.lv.length (icell x.lv)
  o : w.ownsRow base 3 1 vo x.own.length (icell x.own)
  lo : ∀ k, vl.ownBlock = some k → vo.ownBlock ≠ some k
def bootCells (x : Boot) : List Value → List Value
  | [a, b] => x.cells a b
  | _ => []
def bootOwnL (w : World) (base : Nat) (x : Boot) (vs : List Value) : Prop := ∃ vl vo, vs = [vl, vo] ∧ BootOwn w base x vl vo
theorem mine2 {a b : Value} {g : Nat} : mineL [a, b] g ↔ a.ownBlock = some g ∨ b.ownBlock = some g := by
  unfold mineL
  simp
def KBoot : Kind Boot where
  cells := bootCells
  s := 5
  T := 45
  own := bootOwnL
  len := fun {w b x vs} h => by obtain ⟨vl, vo, rfl, _⟩ := h; rfl
  kept := fun {P w w' b x vs} h k hg => by
    obtain ⟨vl, vo, rfl, h⟩ := h
    exact ⟨vl, vo, rfl, k.owns h.l (fun g e => hg g (mine2.2 (.inl e))), k.owns h.o (fun g e => hg g (mine2.2 (.inr e))), h.lo⟩
  lt := fun {w b x vs} h g hg => by
    obtain ⟨vl, vo, rfl, h⟩ := h
    rcases mine2.1 hg with e | e
    · exact h.l.lt g e
    · exact h.o.lt g e
  mono := fun {w b b' x vs} h hb => by
    obtain ⟨vl, vo, rfl, h⟩ := h
    exact ⟨vl, vo, rfl, owns_mono h.l hb, owns_mono h.o hb, h.lo⟩
/-- A row of boots of the call's own. -/
def BootsOwn (w : World) (base : Nat) (v : Value) (l : List Boot) (rs : List (List Value)) : Prop := RowsOwn KBoot w base v l.length l rs []
theorem BootsOwn.rd {w : World} {base : Nat} {p : Option Addr} {c n : Nat} {l : List Boot} {rs : List (List Value)} {tl : List Value} (h : RowsOwn KBoot w base (.slice p n c) n l rs tl) (hl : ∀ x ∈ l, x.lv.length ≤ maxLen ∧ x.own.length ≤ maxLen) : BootsRd w p l := by
  intro k x hx
  obtain ⟨vs, hv, ho⟩ := h.at hx
  obtain ⟨g, cap, e, hb, hg, hc, _⟩ := h.cell (by decide) hx hv
  obtain ⟨vl, vo, rfl, ho⟩ := ho
  obtain ⟨al, cl, rfl, _⟩ := owns_slice ho.l
  obtain ⟨ao, co, rfl, _⟩ := owns_slice ho.o
  cases e
  have z : ∀ j u, (x.cells (.slice al x.lv.length cl) (.slice ao x.own.length co))[j]? = some u → w.cell? ⟨g, k * 5 + j, none⟩ = some u := hc
  obtain ⟨m1, m2⟩ := hl x (List.mem_of_getElem? hx)
  exact ⟨g, 0, al, cl, ao, co, rfl, hg, rd_of_owns ho.l, rd_of_owns ho.o, m1, m2, by rw [Nat.zero_add]; exact z 0 _ rfl, by rw [Nat.zero_add]; exact z 1 _ rfl, by rw [Nat.zero_add]; exact z 2 _ rfl, by rw [Nat.zero_add]; exact z 3 _ rfl, by rw [Nat.zero_add]; exact z 4 _ rfl⟩
def bootsSize : List Boot → Nat
  | [] => 0
  | x :: l => x.lv.length + x.own.length + bootsSize l
theorem bootsSize_mem {l : List Boot} {x : Boot} (h : x ∈ l) : x.lv.length ≤ bootsSize l ∧ x.own.length ≤ bootsSize l := by
  induction l with
  | nil => cases h
  | cons y l ih =>
    rw [bootsSize]
    rcases List.mem_cons.1 h with rfl | h
    · omega
    · have := ih h; omega
theorem bootsSize_drop {l : List Boot} {k : Nat} {x : Boot} (h : l[k]? = some x) : bootsSize (l.drop k) = x.lv.length + x.own.length + bootsSize (l.drop (k + 1)) := by
  rw [drop_cons h, bootsSize]
set_option maxRecDepth 100000 in
set_option maxHeartbeats 4000000 in
theorem szLabel_any (a : Option Addr) (n cap : Nat) (hn : n ≤ maxLen) (left : Int) (h0 : 0 ≤ left ∧ left ≤ 1048576) (w : World) :
    Calls Try.prog 124 #[.agg #[.slice a n cap], .int .i64 left] w fun e w' => e = .returned (.int .i64 (szLeft left n)) ∧ Below w.heap.size w w' := by
  have hb0 := hideP (below_a1 w (.cells #[.slice a n cap] 96))
  go_enter Try.func124, Try.ntmps124
  go_wp2_with fail
  refine (szIntS_any _ _ _ hn left h0 _).mono ?_
  rintro e w1 ⟨rfl, rfl⟩
  by_cases c1 : left < (n : Int)
  · have HS := hideP (szLeft_no c1)
    rw [szLeft_no c1]
    go_wp2
    go_ret
    exact ⟨ret_int HS.out.symm, hb0.out⟩
  · have HS := hideP (szLeft_yes c1)
    rw [szLeft_yes c1]
    have d1 : ¬ (left - (n : Int) < 0) := by omega
    go_wp2
    go_ret
    exact ⟨ret_int HS.out.symm, hb0.out⟩
set_option maxRecDepth 100000 in
set_option maxHeartbeats 4000000 in
theorem szPartBoot_any (x : Boot) (al : Option Addr) (cl : Nat) (ao : Option Addr) (co : Nat) (m1 : x.lv.length ≤ maxLen) (m2 : x.own.length ≤ maxLen) (left : Int) (h0 : 0 ≤ left ∧ left ≤ 1048576) (w : World) :
    Calls Try.prog 67 #[.agg #[.slice al x.lv.length cl, .slice ao x.own.length co, .int .i64 x.a.p, .int .i64 x.a.r, .int .i64 x.a.c], .int .i64 left] w fun e w' => e = .returned (.int .i64 (szLeft left (x.lv.length + x.own.length))) ∧ Below w.heap.size w w' := by
  have hb0 := hideP (below_a1 w (.cells #[.slice al x.lv.length cl, .slice ao x.own.length co, .int .i64 x.a.p, .int .i64 x.a.r, .int .i64 x.a.c] 99))
  have B0 := hideP (Blk.new w #[.slice al x.lv.length cl, .slice ao x.own.length co, .int .i64 x.a.p, .int .i64 x.a.r, .int .i64 x.a.c] 99)
  go_enter Try.func67, Try.ntmps67
  go_wp2_with fail
  refine (szLabel_any _ _ _ m1 left h0 _).mono ?_
  rintro e w1 ⟨rfl, hb1⟩
  have HB := hideP (hb0.out.trans (hb1.mono hb0.out.size))
  have B1 := hideP (B0.out.below hb1)
  clear hb1 hb0 B0
  have x1 : w1.cell? ⟨w.heap.size, 1, none⟩ = some (.slice ao x.own.length co) := (B1.out.cell 1).trans rfl
  by_cases c1 : left < (x.lv.length : Int)
  · have HS : Hid (szLeft left (x.lv.length + x.own.length) = -1) := hideP (szLeft_no (by omega))
    rw [szLeft_no c1]
    go_wp2
    go_ret
    exact ⟨ret_int HS.out.symm, HB.out⟩
  · rw [szLeft_yes c1]
    have d1 : ¬ (left - (x.lv.length : Int) < 0) := by omega
    go_wp2_with fail
    refine (szIntS_any _ _ _ m2 (left - (x.lv.length : Int)) (by omega) _).mono ?_
    rintro e w2 ⟨rfl, rfl⟩
    by_cases c2 : left - (x.lv.length : Int) < (x.own.length : Int)
    · have HS : Hid (szLeft left (x.lv.length + x.own.length) = -1) := hideP (szLeft_no (by omega))
      rw [szLeft_no c2]
      go_wp2
      go_ret
      exact ⟨ret_int HS.out.symm, HB.out⟩
    · have HS : Hid (szLeft left (x.lv.length + x.own.length) = left - (x.lv.length : Int) - (x.own.length : Int)) := hideP (by rw [szLeft_yes (by omega)]; omega)
      rw [szLeft_yes c2]
      have d2 : ¬ (left - (x.lv.length : Int) - (x.own.length : Int) < 0) := by omega
      go_wp2
      go_ret
      exact ⟨ret_int HS.out.symm, HB.out⟩
set_option maxRecDepth 100000 in
set_option maxHeartbeats 4000000 in
theorem szPartBootS_any (l : List Boot) (p : Option Addr) (c : Nat) (hl : l.length ≤ maxLen) (w : World) (h : BootsRd w p l) :
    Calls Try.prog 13 #[.slice p l.length c, .int .i64 1048576] w fun e w' => e = .returned (.int .i64 (szLeft 1048576 (l.length + bootsSize l))) ∧ Below w.heap.size w w' := by
  have hl63 := hl
  unfold maxLen at hl63
  have HR := hideP h
  clear h
  by_cases c0 : 1048576 < (l.length : Int)
  · have HS : Hid (szLeft 1048576 (l.length + bootsSize l) = -1) := hideP (szLeft_no (by omega))
    have d1 : (1048576 : Int) - (l.length : Int) < 0 := by omega
    go_enter Try.func13, Try.ntmps13
    go_wp2
    go_ret
    exact ⟨ret_int HS.out.symm, Below.refl _ _⟩
  have d1 : ¬ ((1048576 : Int) - (l.length : Int) < 0) := by omega
  have zw : IntKind.i64.wrap (1048576 - (l.length : Int)) = 1048576 - (l.length : Int) := IntWalk.i64_in _ (by omega)
  go_enter Try.func13, Try.ntmps13
  go_wp2
  clear zw
  go_loopg [1, 5] (l.length + 1) (fun gk q i wr => ∃ (k : Nat) (left : Int), l.length < gk + k ∧ k ≤ l.length ∧ i = .int .i64 (k : Int) ∧ q = .int .i64 left ∧ (0 ≤ left ∧ left ≤ 1048576) ∧ Hid (szLeft 1048576 (l.length + bootsSize l) = szLeft left (bootsSize (l.drop k))) ∧ Hid (Below w.heap.size w wr))
  case atStart => exact ⟨0, 1048576 - (l.length : Int), by omega, by omega, rfl, rfl, by omega, hideP (by
    rw [List.drop_zero]
    by_cases c2 : (1048576 : Int) < ((l.length + bootsSize l : Nat) : Int)
    · rw [szLeft_no c2, szLeft_no (by omega)]
    · rw [szLeft_yes c2, szLeft_yes (by omega)]; omega), hideP (Below.refl _ _)⟩
  case round =>
    clear d1
    obtain ⟨k, left, hgk, hk, rfl, rfl, hlf, hs, HB⟩ := hrel
    by_cases hlt : k < l.length
    · obtain ⟨x, hx⟩ := some_at (l := l) (k := k) hlt
      obtain ⟨b, o, al, cl, ao, co, rfl, hbw, r1, r2, m1, m2, g0, g1, g2, g3, g4⟩ := HR.out.below HB.out k x hx
      have k0 : (0 : Int) ≤ (k : Int) := by omega
      have k1 : (k : Int) < (l.length : Int) := by omega
      have HD := hideP (bootsSize_drop hx)
      clear hx
      go_wp2_with fail
      refine (szPartBoot_any x al cl ao co m1 m2 left hlf _).mono ?_
      rintro e w1 ⟨rfl, hb1⟩
      have HB := hideP (HB.out.trans (hb1.mono HB.out.size))
      clear hb1 g0 g1 g2 g3 g4
      by_cases c2 : left < ((x.lv.length + x.own.length : Nat) : Int)
      · have HS : Hid (szLeft 1048576 (l.length + bootsSize l) = -1) := hideP (by rw [hs.out, szLeft_no (by rw [HD.out]; omega)])
        rw [szLeft_no c2]
        clear hs
        go_wp2
        go_ret
        exact ⟨ret_int HS.out.symm, HB.out⟩
      · have HS : Hid (szLeft 1048576 (l.length + bootsSize l) = szLeft (left - ((x.lv.length + x.own.length : Nat) : Int)) (bootsSize (l.drop (k + 1)))) := hideP (by
          rw [hs.out, HD.out]
          by_cases c3 : left < ((x.lv.length + x.own.length + bootsSize (l.drop (k + 1)) : Nat) : Int)
          · rw [szLeft_no c3, szLeft_no (by omega)]
          · rw [szLeft_yes c3, szLeft_yes (by omega)]; omega)
        rw [szLeft_yes c2]
        obtain ⟨lf, hlf2⟩ : ∃ lf, lf = left - ((x.lv.length + x.own.length : Nat) : Int) := ⟨_, rfl⟩
        rw [← hlf2] at HS ⊢
        have d2 : ¬ (lf < 0) := by omega
        have hlf3 : 0 ≤ lf ∧ lf ≤ 1048576 := by omega
        clear hs hlf2 c2
        go_wp2
        go_roundg (gk - 1)
        case measure => omega
        case rel => exact ⟨k + 1, lf, by omega, by omega, by go_num, rfl, hlf3, HS, HB⟩
    · have HS : Hid (szLeft 1048576 (l.length + bootsSize l) = left) := hideP (by
        rw [hs.out, List.drop_eq_nil_of_le (by omega), bootsSize, szLeft_yes (by omega)]
        omega)
      have d2 : ¬ ((k : Int) < (l.length : Int)) := by omega
      clear hs
      go_wp2
      go_ret
      exact ⟨ret_int HS.out.symm, HB.out⟩

end Go.Proofs.Ytnchmenpgmlpdaa
