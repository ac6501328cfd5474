/- Res and Amt: the data; the laws' helpers. -/
import Derived.Test.YtabbncoihmhocaaSmall
import Derived.Test.YtabbncoihmhocaaCnt
namespace Go.Proofs.Ytabbncoihmhocaa
open Go.RowKit

structure Amt where
  p : Int
  r : Int
  c : Int
deriving DecidableEq
structure Res where
  live : Bool
  par : Int
  bal : Amt
deriving DecidableEq
instance : Inhabited Amt := ⟨⟨0, 0, 0⟩⟩
instance : Inhabited Res := ⟨⟨false, 0, default⟩⟩
def Amt.val (x : Amt) : Value := .agg #[.int .i64 x.p, .int .i64 x.r, .int .i64 x.c]
def Res.enc (x : Res) : List Value := [.bool x.live, .int .i64 x.par, .int .i64 x.bal.p, .int .i64 x.bal.r, .int .i64 x.bal.c]
theorem Res.enc_len (x : Res) : x.enc.length = 5 := rfl
theorem Rd.rowRes {w : World} {a : Option Addr} {l : List Res} (h : Rd w a (l.flatMap Res.enc)) {k : Nat} {x : Res} (hx : l[k]? = some x) :
    ∃ b o, a = some ⟨b, o, none⟩ ∧ b < w.heap.size ∧ w.cell? ⟨b, o + k * 5, none⟩ = some (.bool x.live) ∧ w.cell? ⟨b, o + k * 5 + 1, none⟩ = some (.int .i64 x.par) ∧ w.cell? ⟨b, o + k * 5 + 2, none⟩ = some (.int .i64 x.bal.p) ∧ w.cell? ⟨b, o + k * 5 + 3, none⟩ = some (.int .i64 x.bal.r) ∧ w.cell? ⟨b, o + k * 5 + 4, none⟩ = some (.int .i64 x.bal.c) := by
  obtain ⟨b, o, ha, hlt, hc⟩ := h.row Res.enc_len (by decide) hx
  exact ⟨b, o, ha, hlt, hc 0 _ (by decide) rfl, hc 1 _ (by decide) rfl, hc 2 _ (by decide) rfl, hc 3 _ (by decide) rfl, hc 4 _ (by decide) rfl⟩
theorem Try.infoRes : (Try.prog.info? 57).map (fun i => (i.zero, i.size, i.bytes)) = some (some (.agg #[.bool false, .int .i64 0, .int .i64 0, .int .i64 0, .int .i64 0]), 5, 40) := by kernel_rfl

/-- What a mark leaves in a row. -/
def resMark (q : Int) : List Value := [.bool (q % 3 == 0), .int .i64 (q + 1), .int .i64 (q + 1 + 1), .int .i64 (q + 1 + 1 + 1), .int .i64 (q + 1 + 1 + 1 + 1)]
def resMarks (q0 : Int) (n : Nat) : List Value := (List.range n).flatMap fun i => resMark (q0 + ((i * 5 : Nat) : Int))
theorem Rd.markedRes {w : World} {a : Option Addr} {q0 q : Int} {n k : Nat} (h : Rd w a (resMarks q0 n)) (hk : k < n) (hq : q = q0 + ((k * 5 : Nat) : Int)) :
    ∃ b o, a = some ⟨b, o, none⟩ ∧ b < w.heap.size ∧ w.cell? ⟨b, o + k * 5, none⟩ = some (.bool (q % 3 == 0)) ∧ w.cell? ⟨b, o + k * 5 + 1, none⟩ = some (.int .i64 (q + 1)) ∧ w.cell? ⟨b, o + k * 5 + 2, none⟩ = some (.int .i64 (q + 1 + 1)) ∧
      w.cell? ⟨b, o + k * 5 + 3, none⟩ = some (.int .i64 (q + 1 + 1 + 1)) ∧ w.cell? ⟨b, o + k * 5 + 4, none⟩ = some (.int .i64 (q + 1 + 1 + 1 + 1)) := by
  subst hq
  obtain ⟨b, o, ha, hlt, hc⟩ := Rd.row (enc := fun i : Nat => resMark (q0 + ((i * 5 : Nat) : Int))) (s := 5) (fun _ => rfl) (by decide) h (k := k) (x := k) (by simp [hk])
  exact ⟨b, o, ha, hlt, hc 0 _ (by decide) rfl, hc 1 _ (by decide) rfl, hc 2 _ (by decide) rfl, hc 3 _ (by decide) rfl, hc 4 _ (by decide) rfl⟩

end Go.Proofs.Ytabbncoihmhocaa
