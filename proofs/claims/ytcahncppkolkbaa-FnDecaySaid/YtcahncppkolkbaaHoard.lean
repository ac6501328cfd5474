/- AmtPart, Hoard of both sides. -/
import Derived.Test.YtcahncppkolkbaaTreeSpec
import Derived.Test.YtcahncppkolkbaaTreeLaws
namespace Go.Proofs.Ytcahncppkolkbaa
open Go.RowKit

def amtPart (x : Amt) (i : Int) : Int := if i = 0 then x.p else if i = 1 then x.r else if i = 2 then x.c else 0
theorem amtPart_zero (i : Int) : amtPart ⟨0, 0, 0⟩ i = 0 := by unfold amtPart; split <;> (try rfl); split <;> (try rfl); split <;> rfl
theorem amtPart_in {x : Amt} {i : Int} (h : amtOk x = true) : 0 ≤ amtPart x i ∧ amtPart x i ≤ 1000000 := by
  rw [amtOk_iff] at h
  unfold amtPart
  split
  · omega
  · split
    · omega
    · split <;> omega
def hoardStep (i : Int) (a : Int) (r : Res) : Int := a + amtPart r.bal i
def hoard (t : List Res) (i : Int) : Int := if treeOk t = true then (t.drop 1).foldl (hoardStep i) 0 else 0
theorem fold_end' {α β : Type} {f : β → α → β} {l : List α} {acc r : β} {k : Nat} (h : r = (l.drop k).foldl f acc) (hk : l.length ≤ k) : r = acc := by
  rw [h, List.drop_eq_nil_of_le hk]; rfl
theorem fold_step' {α β : Type} {f : β → α → β} {l : List α} {acc r : β} {k : Nat} {x : α} (h : r = (l.drop k).foldl f acc) (hx : l[k]? = some x) : r = (l.drop (k + 1)).foldl f (f acc x) := by
  rw [h, drop_cons hx]; rfl

set_option maxHeartbeats 800000 in
theorem implAmtPart_any (x : Amt) (i : Int) (w : World) : Calls Try.prog 19 #[.agg #[.int .i64 x.p, .int .i64 x.r, .int .i64 x.c], .int .i64 i] w fun e w' => e = .returned (.int .i64 (amtPart x i)) ∧ Below w.heap.size w w' := by
  obtain rfl | rfl | rfl | ⟨h0, h1, h2⟩ : i = 0 ∨ i = 1 ∨ i = 2 ∨ (i ≠ 0 ∧ i ≠ 1 ∧ i ≠ 2) := by omega
  · show Calls _ _ _ _ fun e w' => e = .returned (.int .i64 x.p) ∧ _
    go_enter Try.func19, Try.ntmps19
    go_wp2
    go_ret
    exact ⟨rfl, below_a1 _ _⟩
  · show Calls _ _ _ _ fun e w' => e = .returned (.int .i64 x.r) ∧ _
    go_enter Try.func19, Try.ntmps19
    go_wp2
    go_ret
    exact ⟨rfl, below_a1 _ _⟩
  · show Calls _ _ _ _ fun e w' => e = .returned (.int .i64 x.c) ∧ _
    go_enter Try.func19, Try.ntmps19
    go_wp2
    go_ret
    exact ⟨rfl, below_a1 _ _⟩
  · have hr : amtPart x i = 0 := by unfold amtPart; rw [if_neg h0, if_neg h1, if_neg h2]
    rw [hr]
    have d0 : (i == 0) = false := by simpa using h0
    have d1 : (i == 1) = false := by simpa using h1
    have d2 : (i == 2) = false := by simpa using h2
    clear h0 h1 h2 hr
    go_enter Try.func19, Try.ntmps19
    go_wp2
    go_ret
    exact ⟨rfl, below_a1 _ _⟩

set_option maxRecDepth 100000 in
set_option maxHeartbeats 1000000 in
theorem implHoard_any (a : Option Addr) (n cap : Nat) (t : List Res) (i : Int) (hn : n = t.length) (hl : n ≤ 1048576) (hc : n ≤ cap) (w : World) (h : Rd w a (t.flatMap Res.enc)) :
    Calls Try.prog 10 #[.slice a n cap, .int .i64 i] w fun e w' => e = .returned (.int .i64 (hoard t i)) ∧ Below w.heap.size w w' := by
  have Hn := Lib.hid hn
  clear hn
  go_enter Try.func10, Try.ntmps10
  go_wp2_with fail
  refine (implTreeOk_any _ _ _ t Hn.out hl _ h).mono ?_
  rintro e w1 ⟨rfl, hb1⟩
  cases hok : treeOk t
  · have Hr : Hid (hoard t i = 0) := hideP (by unfold hoard; rw [if_neg (by simp [hok])])
    go_wp2
    go_ret
    exact ⟨ret_int Hr.out.symm, hb1⟩
  · have Hr : Hid (hoard t i = (t.drop 1).foldl (hoardStep i) 0) := hideP (by unfold hoard; rw [if_pos hok])
    obtain ⟨h5, hpl⟩ := tree_places hok
    have HPL := hideP hpl
    have hn5 : n = 5 := by have := Hn.out; omega
    subst hn5
    obtain ⟨x0, hx0⟩ := some_at (l := t) (k := 0) (by omega)
    obtain ⟨b, o, rfl, hbw, _⟩ := h.rowRes hx0
    clear h5 hpl hok hx0
    go_wp2
    go_loopg [5, 15] 6 (fun gk s j wr => ∃ (k : Nat) (acc : Int), 4 < gk + k ∧ k ≤ 4 ∧ j = .int .i64 (k : Int) ∧ s = .int .i64 acc ∧ 0 ≤ acc ∧ acc ≤ 1000000 * k ∧ Hid ((t.drop 1).foldl (hoardStep i) 0 = (t.drop (k + 1)).foldl (hoardStep i) acc) ∧ Below w.heap.size w wr)
    case atStart => exact ⟨0, 0, by omega, by omega, by first | rfl | go_num, rfl, by omega, by omega, hideP rfl, hb1⟩
    case round =>
      obtain ⟨k, acc, hgk, hk, rfl, rfl, ha0, ha1, hf, hb⟩ := hrel
      by_cases hlt : k < 4
      · obtain ⟨x, hx⟩ := some_at (l := t) (k := k + 1) (by have := Hn.out; omega)
        obtain ⟨b', o', ha', hbw', g1, g2, g3, g4, g5⟩ := (h.below hb).rowRes hx
        simp only [Option.some.injEq, Addr.mk.injEq, and_true] at ha'
        obtain ⟨rfl, rfl⟩ := ha'
        obtain ⟨hxa, hxz⟩ := HPL.out _ x hx
        have hpb := amtPart_in (i := i) hxa
        have HF := Lib.hid (fold_step' hf.out hx)
        have hz := hb.size
        obtain ⟨hp0, hp1⟩ := hpb
        obtain ⟨xl, xp, ⟨y1, y2, y3⟩⟩ := x
        dsimp only at g1 g2 g3 g4 g5 hp0 hp1
        clear hx hxa
        rw [show o + (k + 1) * 5 = o + 5 + k * 5 from by omega] at g1
        rw [show o + (k + 1) * 5 + 1 = o + 5 + k * 5 + 1 from by omega] at g2
        rw [show o + (k + 1) * 5 + 2 = o + 5 + k * 5 + 2 from by omega] at g3
        rw [show o + (k + 1) * 5 + 3 = o + 5 + k * 5 + 3 from by omega] at g4
        rw [show o + (k + 1) * 5 + 4 = o + 5 + k * 5 + 4 from by omega] at g5
        clear hxz
        go_wp2_with fail
        refine (implAmtPart_any ⟨y1, y2, y3⟩ i _).mono ?_
        rintro e w2 ⟨rfl, hb2⟩
        go_wp2
        go_roundg (gk - 1)
        case measure => omega
        case rel => exact ⟨k + 1, _, by omega, by omega, by go_num, rfl, by omega, by omega, HF, (hb.alloc hb.size _).trans (hb2.mono (by simp; omega))⟩
      · have HE := Lib.hid (fold_end' hf.out (by have := Hn.out; omega))
        go_wp2
        go_ret
        exact ⟨ret_int (by rw [Hr.out, HE.out]), hb⟩

end Go.Proofs.Ytcahncppkolkbaa
