/- Boots among the arguments: opened as typed data. -/
import Derived.Test.YtnchmenpgmlpdaaTop
import Derived.Test.YtnchmenpgmlpdaaObjOpen
import Derived.Test.YtnchmenpgmlpdaaBootOk
namespace Go.Proofs.Ytnchmenpgmlpdaa
open Go.ChangeShapes Go.WideShapes Go.ChangeAt Go.RowKit Go.Deep

def bootRow (w : World) (cs : List Value) (x : Boot) : Prop := ∃ al cl ao co, cs = x.cells (.slice al x.lv.length cl) (.slice ao x.own.length co) ∧ Rd w al (icell x.lv) ∧ Rd w ao (icell x.own) ∧ x.lv.length ≤ maxLen ∧ x.own.length ≤ maxLen
set_option maxRecDepth 100000 in
set_option maxHeartbeats 8000000 in
theorem decBoot {H : Type} {enc : TypeId × Value → H} {W : World} (n : Nat) (cs : List Value) (y : DataW H × List MemPlace) (h : DataW.trod enc Try.prog W 0 (fun _ => true) true n 99 cs = some y) : ∃ x : Boot, bootRow W cs x := by
  obtain ⟨xs, m, _, _, hlen, hxl, hg⟩ := DataW.trod_struct Try.underlying99 h
  rw [show Try.prog.cellsOf 99 = 5 from by kernel_rfl] at hlen
  match cs, hlen with
  | [c0, c1, c2, c3, c4], _ =>
    have e1 : Try.prog.cellsOf 3 = 1 := by kernel_rfl
    have es : Try.prog.cellsOf 39 = 1 := by kernel_rfl
    have el : Try.prog.cellsOf 96 = 1 := by kernel_rfl
    have ea : Try.prog.cellsOf 97 = 3 := by kernel_rfl
    have g0 := hg 0 _ rfl
    rw [List.getElem?_eq_getElem (by rw [hxl]; decide)] at g0
    obtain ⟨ls, lm, _, _, hll, hlx, hlg⟩ := DataW.trod_struct Try.underlying96 g0
    have q0 := hlg 0 _ rfl
    rw [List.getElem?_eq_getElem (by rw [hlx]; decide)] at q0
    obtain ⟨al, nl, kl, xl, hcl, hnl, hml, _, hrl⟩ := flat_of_trod ienc 1 Try.underlying39 (by kernel_rfl) (by decide) decInt q0
    change List.take (Try.prog.cellsOf 39) (List.drop 0 (List.take (Try.prog.cellsOf 96) (List.drop 0 _))) = _ at hcl
    rw [es, el] at hcl
    simp only [List.drop_zero, List.take_succ_cons, List.take_zero, List.cons.injEq, and_true] at hcl
    subst hcl
    subst hnl
    have g1 := hg 1 _ rfl
    rw [List.getElem?_eq_getElem (by rw [hxl]; decide)] at g1
    obtain ⟨ao, no, ko, xo, hco, hno, hmo, _, hro⟩ := flat_of_trod ienc 1 Try.underlying39 (by kernel_rfl) (by decide) decInt g1
    change List.take (Try.prog.cellsOf 39) (List.drop 1 _) = _ at hco
    rw [es] at hco
    simp only [List.drop_succ_cons, List.drop_zero, List.take_succ_cons, List.take_zero, List.cons.injEq, and_true] at hco
    subst hco
    subst hno
    have g2 := hg 2 _ rfl
    rw [List.getElem?_eq_getElem (by rw [hxl]; decide)] at g2
    obtain ⟨zs, am, _, _, hal0, hal, ha⟩ := DataW.trod_struct Try.underlying97 g2
    obtain ⟨v0, z0⟩ := fld_int (ha 0 _ rfl) (by rw [hal]; decide) Try.underlying3 (c := c2) (by show List.take (Try.prog.cellsOf 3) (List.drop 0 (List.take (Try.prog.cellsOf 97) (List.drop 2 _))) = [c2]; rw [e1, ea]; rfl)
    obtain ⟨v1, z1⟩ := fld_int (ha 1 _ rfl) (by rw [hal]; decide) Try.underlying3 (c := c3) (by show List.take (Try.prog.cellsOf 3) (List.drop 1 (List.take (Try.prog.cellsOf 97) (List.drop 2 _))) = [c3]; rw [e1, ea]; rfl)
    obtain ⟨v2, z2⟩ := fld_int (ha 2 _ rfl) (by rw [hal]; decide) Try.underlying3 (c := c4) (by show List.take (Try.prog.cellsOf 3) (List.drop 2 (List.take (Try.prog.cellsOf 97) (List.drop 2 _))) = [c4]; rw [e1, ea]; rfl)
    subst z0 z1 z2
    rw [icell_flat] at hrl hro
    exact ⟨⟨xl, xo, ⟨v0, v1, v2⟩⟩, al, kl, ao, ko, rfl, hrl, hro, hml, hmo⟩
theorem flat_rows_get {rows : List (List Value)} {s : Nat} (hs : ∀ c ∈ rows, c.length = s) {k j : Nat} {c : List Value} {u : Value} (hc : rows[k]? = some c) (hu : c[j]? = some u) : rows.flatten[k * s + j]? = some u := by
  induction rows generalizing k with
  | nil => simp at hc
  | cons r rows ih =>
    have h0 : r.length = s := hs r (by simp)
    rw [List.flatten_cons]
    cases k with
    | zero =>
      simp at hc
      subst hc
      rw [Nat.zero_mul, Nat.zero_add, List.getElem?_append_left (List.getElem?_eq_some_iff.1 hu).1]
      exact hu
    | succ k =>
      have hj : j < s := by have := (List.getElem?_eq_some_iff.1 hu).1; have := hs c (List.mem_of_getElem? hc); omega
      rw [List.getElem?_append_right (by rw [h0, Nat.add_mul]; omega), h0, show (k + 1) * s + j - s = k * s + j by rw [Nat.add_mul]; omega]
      exact ih (fun c hc => hs c (by simp [hc])) (by simpa using hc)
set_option maxRecDepth 100000 in
set_option maxHeartbeats 8000000 in
theorem openBoots {H : Type} {enc : TypeId × Value → H} {W : World} {r : Reach} {b0 : Nat} {v : Value} {d : DataW H} {p : List MemPlace} (hval : Value.okWide Try.prog W r b0 22 v) (h : DataW.Trod enc Try.prog W 0 (fun _ => true) true 22 v d p) :
    ∃ (a : Option Addr) (n cap : Nat) (l : List Boot), v = .slice a n cap ∧ n = l.length ∧ n ≤ maxLen ∧ BootsRd W a l := by
  obtain ⟨a, n, cap, rows, l, h1, h2, h3, h4, h5, h6, h7⟩ := open_rows bootRow 5 Try.underlying22 (by kernel_rfl) (by decide) decBoot hval h
  refine ⟨a, n, cap, l, h1, h2, h3, ?_⟩
  intro k x hx
  have hk := (List.getElem?_eq_some_iff.1 hx).1
  obtain ⟨c, hc⟩ := some_at (l := rows) (k := k) (by omega)
  obtain ⟨al, cl, ao, co, rfl, r1, r2, m1, m2⟩ := h7 k c x hc hx
  rcases h4 with h4 | ⟨b, o, ha, hlt, hq⟩
  · have := flat_rows_get h5 hc (j := 0) rfl
    rw [h4] at this
    simp at this
  · have z : ∀ j u, (x.cells (.slice al x.lv.length cl) (.slice ao x.own.length co))[j]? = some u → W.cell? ⟨b, o + (k * 5 + j), none⟩ = some u := fun j u hu => hq _ u (flat_rows_get h5 hc hu)
    exact ⟨b, o, al, cl, ao, co, ha, hlt, r1, r2, m1, m2, z 0 _ rfl, z 1 _ rfl, z 2 _ rfl, z 3 _ rfl, z 4 _ rfl⟩

end Go.Proofs.Ytnchmenpgmlpdaa
