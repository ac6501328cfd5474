/- Things among the arguments: opened as typed data. -/
import Derived.Test.YtpiaahkfnefplaaTop
import Derived.Test.YtpiaahkfnefplaaObjOpen
import Derived.Test.YtpiaahkfnefplaaThingsSz
namespace Go.Proofs.Ytpiaahkfnefplaa
open Go.ChangeShapes Go.WideShapes Go.ChangeAt Go.RowKit Go.Deep


def thingRow (w : World) (cs : List Value) (x : Thing) : Prop := ∃ vl vd vq, cs = x.cells vl vd vq ∧ ThOpen w x vl vd vq
instance : Inhabited Thing := ⟨noThing 0⟩
theorem flat_rows_get' {rows : List (List Value)} {s : Nat} (hs : ∀ c ∈ rows, c.length = s) {k j : Nat} {c : List Value} {u : Value} (hc : rows[k]? = some c) (hu : c[j]? = some u) : rows.flatten[k * s + j]? = some u := by
  induction rows generalizing k with
  | nil => simp at hc
  | cons r rows ih =>
    have h0 : r.length = s := hs r (by simp)
    rw [List.flatten_cons]
    cases k with
    | zero =>
      simp at hc
      subst hc
      rw [Nat.zero_mul, Nat.zero_add, List.getElem?_append_left (List.getElem?_eq_some_iff.1 hu).1]
      exact hu
    | succ k =>
      have hj : j < s := by have := (List.getElem?_eq_some_iff.1 hu).1; have := hs c (List.mem_of_getElem? hc); omega
      rw [List.getElem?_append_right (by rw [h0, Nat.add_mul]; omega), h0, show (k + 1) * s + j - s = k * s + j by rw [Nat.add_mul]; omega]
      exact ih (fun c hc => hs c (by simp [hc])) (by simpa using hc)
set_option maxRecDepth 100000 in
set_option maxHeartbeats 8000000 in
theorem openThings {H : Type} {enc : TypeId × Value → H} {W : World} {r : Reach} {b0 : Nat} {v : Value} {d : DataW H} {p : List MemPlace} (hval : Value.okWide Try.prog W r b0 65 v) (h : DataW.Trod enc Try.prog W 0 (fun _ => true) true 65 v d p) :
    ∃ (a : Option Addr) (n cap : Nat) (l : List Thing), v = .slice a n cap ∧ n = l.length ∧ n ≤ maxLen ∧ ThingsRd W a l ∧ Short maxLen l := by
  obtain ⟨a, n, cap, rows, l, h1, h2, h3, h4, h5, h6, h7⟩ := open_rows thingRow 13 Try.underlying65 (by kernel_rfl) (by decide) decThing hval h
  have hrow : ∀ (k : Nat) (x : Thing), l[k]? = some x → ∃ c, rows[k]? = some c ∧ thingRow W c x := fun k x hx => by
    have hk := (List.getElem?_eq_some_iff.1 hx).1
    obtain ⟨c, hc⟩ := some_at (l := rows) (k := k) (by omega)
    exact ⟨c, hc, h7 k c x hc hx⟩
  refine ⟨a, n, cap, l, h1, h2, h3, ?_, ?_⟩
  · intro k x hx
    obtain ⟨c, hc, vl, vd, vq, rfl, ho⟩ := hrow k x hx
    rcases h4 with h4 | ⟨b, o, ha, hlt, hq⟩
    · have := flat_rows_get' h5 hc (j := 0) rfl
      rw [h4] at this
      simp at this
    · exact ⟨b, o, vl, vd, vq, ha, hlt, ho.is, fun j u hu => by rw [Nat.add_assoc]; exact hq _ u (flat_rows_get' h5 hc hu)⟩
  · intro x hx
    obtain ⟨k, hk⟩ := List.getElem?_of_mem hx
    obtain ⟨c, hc, vl, vd, vq, rfl, ho⟩ := hrow k x hk
    exact ⟨⟨ho.ll, ho.ld, ho.lq⟩, hideP ho.wwait⟩

end Go.Proofs.Ytpiaahkfnefplaa
