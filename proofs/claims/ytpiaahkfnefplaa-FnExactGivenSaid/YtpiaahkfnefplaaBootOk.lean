/- BootOk of both sides. -/
import Derived.Test.YtpiaahkfnefplaaAmtAdd
import Derived.Test.YtpiaahkfnefplaaFlows
import Derived.Deep.LoopGhost
namespace Go.Proofs.Ytpiaahkfnefplaa
open Go.RowKit

structure Boot where
  lv : List Int
  own : List Int
  a : Amt
instance : Inhabited Boot := ⟨⟨[], [], ⟨0, 0, 0⟩⟩⟩
def Boot.cells (x : Boot) (vl vo : Value) : List Value := [vl, vo, .int .i64 x.a.p, .int .i64 x.a.r, .int .i64 x.a.c]
/-- What a row of boots reads as. -/
def BootsRd (w : World) (p : Option Addr) (l : List Boot) : Prop :=
  ∀ (k : Nat) (x : Boot), l[k]? = some x → ∃ b o al cl ao co, p = some ⟨b, o, none⟩ ∧ b < w.heap.size ∧ Rd w al (icell x.lv) ∧ Rd w ao (icell x.own) ∧ x.lv.length ≤ maxLen ∧ x.own.length ≤ maxLen ∧
    w.cell? ⟨b, o + k * 5, none⟩ = some (.slice al x.lv.length cl) ∧ w.cell? ⟨b, o + k * 5 + 1, none⟩ = some (.slice ao x.own.length co) ∧ w.cell? ⟨b, o + k * 5 + 2, none⟩ = some (.int .i64 x.a.p) ∧ w.cell? ⟨b, o + k * 5 + 3, none⟩ = some (.int .i64 x.a.r) ∧ w.cell? ⟨b, o + k * 5 + 4, none⟩ = some (.int .i64 x.a.c)
theorem BootsRd.below {w w' : World} {p : Option Addr} {l : List Boot} (h : BootsRd w p l) (hb : Below w.heap.size w w') : BootsRd w' p l := by
  intro k x hx
  obtain ⟨b, o, al, cl, ao, co, rfl, hlt, r1, r2, m1, m2, c0, c1, c2, c3, c4⟩ := h k x hx
  have hs := hb.size
  exact ⟨b, o, al, cl, ao, co, rfl, by omega, r1.below hb, r2.below hb, m1, m2, (hb.cell (p := ⟨b, _, none⟩) hlt).trans c0, (hb.cell (p := ⟨b, _, none⟩) hlt).trans c1, (hb.cell (p := ⟨b, _, none⟩) hlt).trans c2, (hb.cell (p := ⟨b, _, none⟩) hlt).trans c3, (hb.cell (p := ⟨b, _, none⟩) hlt).trans c4⟩
theorem BootsRd.drewN {w : World} {p : Option Addr} {l : List Boot} (h : BootsRd w p l) (n : Nat) : BootsRd (w.drewN n) p l := h
def bootGo : Amt → List Boot → Bool
  | _, [] => true
  | s, x :: l => (amtAddB s x.a).2 && (labelOk x.lv && (ownOk x.own && bootGo (amtAddB s x.a).1 l))
def bootOk (l : List Boot) : Bool := bootGo ⟨0, 0, 0⟩ l && inB l.length 1 3
theorem boot_bad {l : List Boot} {s : Amt} {k : Nat} {x : Boot} (h : bootGo ⟨0, 0, 0⟩ l = bootGo s (l.drop k)) (hx : l[k]? = some x) (hb : (amtAddB s x.a).2 = false ∨ labelOk x.lv = false ∨ ownOk x.own = false) : bootOk l = false := by
  unfold bootOk
  rw [h, drop_cons hx, bootGo]
  rcases hb with hb | hb | hb <;> rw [hb] <;> simp
theorem boot_good {l : List Boot} {s : Amt} {k : Nat} {x : Boot} (h : bootGo ⟨0, 0, 0⟩ l = bootGo s (l.drop k)) (hx : l[k]? = some x) (h1 : (amtAddB s x.a).2 = true) (h2 : labelOk x.lv = true) (h3 : ownOk x.own = true) : bootGo ⟨0, 0, 0⟩ l = bootGo (amtAddB s x.a).1 (l.drop (k + 1)) := by
  rw [h, drop_cons hx, bootGo, h1, h2, h3]
  rfl
theorem boot_end {l : List Boot} {s : Amt} {k : Nat} (h : bootGo ⟨0, 0, 0⟩ l = bootGo s (l.drop k)) (hk : l.length ≤ k) : bootOk l = inB l.length 1 3 := by
  unfold bootOk
  rw [h, List.drop_eq_nil_of_le hk, bootGo, Bool.true_and]
end Go.Proofs.Ytpiaahkfnefplaa
