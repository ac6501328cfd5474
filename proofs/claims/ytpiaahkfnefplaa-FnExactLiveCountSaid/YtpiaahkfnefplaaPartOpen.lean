/- Worlds among the arguments: opened as typed data. -/
import Derived.Test.YtpiaahkfnefplaaThingsOpen
import Derived.Test.YtpiaahkfnefplaaPartPure
namespace Go.Proofs.Ytpiaahkfnefplaa
open Go.ChangeShapes Go.WideShapes Go.ChangeAt Go.RowKit Go.Deep


set_option maxRecDepth 100000 in
theorem decAmt {H : Type} {enc : TypeId × Value → H} {W : World} (n : Nat) (cs : List Value) (y : DataW H × List MemPlace) (h : DataW.trod enc Try.prog W 0 (fun _ => true) true n 70 cs = some y) : ∃ a b c : Int, cs = [.int .i64 a, .int .i64 b, .int .i64 c] := by
  obtain ⟨xs, m, _, _, hlen, hxl, hg⟩ := DataW.trod_struct Try.underlying70 h
  rw [show Try.prog.cellsOf 70 = 3 from by kernel_rfl] at hlen
  match cs, hlen with
  | [c0, c1, c2], _ =>
    have c3 : Try.prog.cellsOf 3 = 1 := by kernel_rfl
    obtain ⟨v0, rfl⟩ := fld_int (hg 0 _ rfl) (by rw [hxl]; decide) Try.underlying3 (by show List.take (Try.prog.cellsOf 3) (List.drop 0 _) = [c0]; rw [c3]; rfl)
    obtain ⟨v1, rfl⟩ := fld_int (hg 1 _ rfl) (by rw [hxl]; decide) Try.underlying3 (by show List.take (Try.prog.cellsOf 3) (List.drop 1 _) = [c1]; rw [c3]; rfl)
    obtain ⟨v2, rfl⟩ := fld_int (hg 2 _ rfl) (by rw [hxl]; decide) Try.underlying3 (by show List.take (Try.prog.cellsOf 3) (List.drop 2 _) = [c2]; rw [c3]; rfl)
    exact ⟨v0, v1, v2, rfl⟩

set_option maxRecDepth 100000 in
theorem decRes {H : Type} {enc : TypeId × Value → H} {W : World} (n : Nat) (cs : List Value) (y : DataW H × List MemPlace) (h : DataW.trod enc Try.prog W 0 (fun _ => true) true n 106 cs = some y) : ∃ x : Res, cs = x.enc := by
  obtain ⟨xs, m, _, _, hlen, hxl, hg⟩ := DataW.trod_struct Try.underlying106 h
  rw [show Try.prog.cellsOf 106 = 5 from by kernel_rfl] at hlen
  match cs, hlen with
  | [c0, c1, c2, c3, c4], _ =>
    have e1 : Try.prog.cellsOf 3 = 1 := by kernel_rfl
    have eb : Try.prog.cellsOf 4 = 1 := by kernel_rfl
    have e2 : Try.prog.cellsOf 70 = 3 := by kernel_rfl
    obtain ⟨v0, rfl⟩ := fld_bool (hg 0 _ rfl) (by rw [hxl]; decide) Try.underlying4 (by show List.take (Try.prog.cellsOf 4) (List.drop 0 _) = [c0]; rw [eb]; rfl)
    obtain ⟨v1, rfl⟩ := fld_int (hg 1 _ rfl) (by rw [hxl]; decide) Try.underlying3 (by show List.take (Try.prog.cellsOf 3) (List.drop 1 _) = [c1]; rw [e1]; rfl)
    have g2 := hg 2 _ rfl
    rw [List.getElem?_eq_getElem (by rw [hxl]; decide)] at g2
    obtain ⟨a, b, c, hc⟩ := decAmt _ _ _ g2
    change List.take (Try.prog.cellsOf 70) (List.drop 2 _) = _ at hc
    rw [e2] at hc
    simp only [List.drop_succ_cons, List.drop_zero, List.take_succ_cons, List.take_zero, List.cons.injEq, and_true] at hc
    obtain ⟨rfl, rfl, rfl⟩ := hc
    exact ⟨⟨v0, v1, ⟨a, b, c⟩⟩, rfl⟩

set_option maxRecDepth 100000 in
theorem decTap {H : Type} {enc : TypeId × Value → H} {W : World} (n : Nat) (cs : List Value) (y : DataW H × List MemPlace) (h : DataW.trod enc Try.prog W 0 (fun _ => true) true n 110 cs = some y) : ∃ x : Tap, cs = x.enc := by
  obtain ⟨xs, m, _, _, hlen, hxl, hg⟩ := DataW.trod_struct Try.underlying110 h
  rw [show Try.prog.cellsOf 110 = 6 from by kernel_rfl] at hlen
  match cs, hlen with
  | [c0, c1, c2, c3, c4, c5], _ =>
    have e3 : Try.prog.cellsOf 3 = 1 := by kernel_rfl
    obtain ⟨v0, rfl⟩ := fld_int (hg 0 _ rfl) (by rw [hxl]; decide) Try.underlying3 (by show List.take (Try.prog.cellsOf 3) (List.drop 0 _) = [c0]; rw [e3]; rfl)
    obtain ⟨v1, rfl⟩ := fld_int (hg 1 _ rfl) (by rw [hxl]; decide) Try.underlying3 (by show List.take (Try.prog.cellsOf 3) (List.drop 1 _) = [c1]; rw [e3]; rfl)
    obtain ⟨v2, rfl⟩ := fld_int (hg 2 _ rfl) (by rw [hxl]; decide) Try.underlying3 (by show List.take (Try.prog.cellsOf 3) (List.drop 2 _) = [c2]; rw [e3]; rfl)
    obtain ⟨v3, rfl⟩ := fld_int (hg 3 _ rfl) (by rw [hxl]; decide) Try.underlying3 (by show List.take (Try.prog.cellsOf 3) (List.drop 3 _) = [c3]; rw [e3]; rfl)
    obtain ⟨v4, rfl⟩ := fld_int (hg 4 _ rfl) (by rw [hxl]; decide) Try.underlying3 (by show List.take (Try.prog.cellsOf 3) (List.drop 4 _) = [c4]; rw [e3]; rfl)
    obtain ⟨v5, rfl⟩ := fld_int (hg 5 _ rfl) (by rw [hxl]; decide) Try.underlying3 (by show List.take (Try.prog.cellsOf 3) (List.drop 5 _) = [c5]; rw [e3]; rfl)
    exact ⟨⟨v0, v1, v2, v3, v4, v5⟩, rfl⟩
theorem things_of_trod {H : Type} {enc : TypeId × Value → H} {W : World} {fuel : Nat} {cs0 : List Value} {y0 : DataW H × List MemPlace} (hf : DataW.trod enc Try.prog W 0 (fun _ => true) true fuel 65 cs0 = some y0) :
    ∃ (a : Option Addr) (cap : Nat) (l : List Thing), cs0 = [.slice a l.length cap] ∧ l.length ≤ maxLen ∧ ThingsRd W a l ∧ Short maxLen l := by
  obtain ⟨a, n, cap, rows, l, h1, h2, h3, _, h4, h5, h6, h7⟩ := rows_of_trod thingRow 13 Try.underlying65 (by kernel_rfl) (by decide) decThing hf
  have hrow : ∀ (k : Nat) (x : Thing), l[k]? = some x → ∃ c, rows[k]? = some c ∧ thingRow W c x := fun k x hx => by
    have hk := (List.getElem?_eq_some_iff.1 hx).1
    obtain ⟨c, hc⟩ := some_at (l := rows) (k := k) (by omega)
    exact ⟨c, hc, h7 k c x hc hx⟩
  subst h2
  refine ⟨a, cap, l, h1, h3, ?_, ?_⟩
  · intro k x hx
    obtain ⟨c, hc, vl, vd, vq, rfl, ho⟩ := hrow k x hx
    rcases h4 with h4 | ⟨b, o, ha, hlt, hq⟩
    · have := flat_rows_get' h5 hc (j := 0) rfl
      rw [h4] at this
      simp at this
    · exact ⟨b, o, vl, vd, vq, ha, hlt, ho.is, fun j u hu => by rw [Nat.add_assoc]; exact hq _ u (flat_rows_get' h5 hc hu)⟩
  · intro x hx
    obtain ⟨k, hk⟩ := List.getElem?_of_mem hx
    obtain ⟨c, hc, vl, vd, vq, rfl, ho⟩ := hrow k x hk
    exact ⟨⟨ho.ll, ho.ld, ho.lq⟩, hideP ho.wwait⟩
set_option maxRecDepth 100000 in
theorem decGc {H : Type} {enc : TypeId × Value → H} {W : World} (n : Nat) (cs : List Value) (y : DataW H × List MemPlace) (h : DataW.trod enc Try.prog W 0 (fun _ => true) true n 66 cs = some y) : ∃ (v0 v1 v2 : Int) (ag : Option Addr) (kg : Nat) (lg : List Int), cs = [.int .i64 v0, .int .i64 v1, .int .i64 v2, .slice ag lg.length kg] ∧ lg.length ≤ maxLen ∧ lg.length ≤ kg ∧ Rd W ag (icell lg) := by
  obtain ⟨xs, m, _, _, hlen, hxl, hg⟩ := DataW.trod_struct Try.underlying66 h
  rw [show Try.prog.cellsOf 66 = 4 from by kernel_rfl] at hlen
  match cs, hlen with
  | [c0, c1, c2, c3], _ =>
    have e1 : Try.prog.cellsOf 3 = 1 := by kernel_rfl
    obtain ⟨v0, rfl, _⟩ := fld_wf (hg 0 _ rfl) (by rw [hxl]; decide) Try.underlying3 (by show List.take (Try.prog.cellsOf 3) (List.drop 0 _) = [c0]; rw [e1]; rfl)
    obtain ⟨v1, rfl, _⟩ := fld_wf (hg 1 _ rfl) (by rw [hxl]; decide) Try.underlying3 (by show List.take (Try.prog.cellsOf 3) (List.drop 1 _) = [c1]; rw [e1]; rfl)
    obtain ⟨v2, rfl, _⟩ := fld_wf (hg 2 _ rfl) (by rw [hxl]; decide) Try.underlying3 (by show List.take (Try.prog.cellsOf 3) (List.drop 2 _) = [c2]; rw [e1]; rfl)
    have g3 := hg 3 _ rfl
    rw [List.getElem?_eq_getElem (by rw [hxl]; decide)] at g3
    obtain ⟨ag, ng, kg, lg, hc3, hng, hmg, hkg, hrg⟩ := flat_of_trod ienc 1 Try.underlying33 (by kernel_rfl) (by decide) decInt g3
    change List.take (Try.prog.cellsOf 33) (List.drop 3 _) = _ at hc3
    rw [show Try.prog.cellsOf 33 = 1 from by kernel_rfl] at hc3
    simp only [List.drop_succ_cons, List.drop_zero, List.take_succ_cons, List.take_zero, List.cons.injEq, and_true] at hc3
    subst hc3
    subst hng
    rw [icell_flat] at hrg
    exact ⟨v0, v1, v2, ag, kg, lg, rfl, hmg, hkg, hrg⟩
set_option maxRecDepth 100000 in
theorem decLabel {H : Type} {enc : TypeId × Value → H} {W : World} (n : Nat) (cs : List Value) (y : DataW H × List MemPlace) (h : DataW.trod enc Try.prog W 0 (fun _ => true) true n 63 cs = some y) : ∃ (al : Option Addr) (kl : Nat) (ll : List Int), cs = [.slice al ll.length kl] ∧ ll.length ≤ maxLen ∧ ll.length ≤ kl ∧ Rd W al (icell ll) := by
  obtain ⟨xs, m, _, _, hlen, hxl, hg⟩ := DataW.trod_struct Try.underlying63 h
  rw [show Try.prog.cellsOf 63 = 1 from by kernel_rfl] at hlen
  match cs, hlen with
  | [c0], _ =>
    have e1 : Try.prog.cellsOf 3 = 1 := by kernel_rfl
    have g0 := hg 0 _ rfl
    rw [List.getElem?_eq_getElem (by rw [hxl]; decide)] at g0
    obtain ⟨al, nl, kl, ll, hc0, hnl, hml, hkl, hrl⟩ := flat_of_trod ienc 1 Try.underlying33 (by kernel_rfl) (by decide) decInt g0
    change List.take (Try.prog.cellsOf 33) (List.drop 0 _) = _ at hc0
    rw [show Try.prog.cellsOf 33 = 1 from by kernel_rfl] at hc0
    simp only [List.drop_succ_cons, List.drop_zero, List.take_succ_cons, List.take_zero, List.cons.injEq, and_true] at hc0
    subst hc0
    subst hnl
    rw [icell_flat] at hrl
    exact ⟨al, kl, ll, rfl, hml, hkl, hrl⟩
set_option maxRecDepth 100000 in
theorem decHeap {H : Type} {enc : TypeId × Value → H} {W : World} (n : Nat) (cs : List Value) (y : DataW H × List MemPlace) (h : DataW.trod enc Try.prog W 0 (fun _ => true) true n 68 cs = some y) : ∃ (aa : Option Addr) (ka : Nat) (la : List Thing) (v0 v1 v2 : Int) (ag : Option Addr) (kg : Nat) (lg : List Int), cs = [.slice aa la.length ka, .int .i64 v0, .int .i64 v1, .int .i64 v2, .slice ag lg.length kg] ∧ la.length ≤ maxLen ∧ ThingsRd W aa la ∧ Short maxLen la ∧ lg.length ≤ maxLen ∧ lg.length ≤ kg ∧ Rd W ag (icell lg) := by
  obtain ⟨xs, m, _, _, hlen, hxl, hg⟩ := DataW.trod_struct Try.underlying68 h
  rw [show Try.prog.cellsOf 68 = 5 from by kernel_rfl] at hlen
  match cs, hlen with
  | [c0, c1, c2, c3, c4], _ =>
    have e1 : Try.prog.cellsOf 3 = 1 := by kernel_rfl
    have g0 := hg 0 _ rfl
    rw [List.getElem?_eq_getElem (by rw [hxl]; decide)] at g0
    obtain ⟨aa, ka, la, hc0, hma, hra, hsa⟩ := things_of_trod g0
    change List.take (Try.prog.cellsOf 65) (List.drop 0 _) = _ at hc0
    rw [show Try.prog.cellsOf 65 = 1 from by kernel_rfl] at hc0
    simp only [List.drop_succ_cons, List.drop_zero, List.take_succ_cons, List.take_zero, List.cons.injEq, and_true] at hc0
    subst hc0
    have g1 := hg 1 _ rfl
    rw [List.getElem?_eq_getElem (by rw [hxl]; decide)] at g1
    obtain ⟨v0, v1, v2, ag, kg, lg, hc1, hmg, hkg, hrg⟩ := decGc _ _ _ g1
    change List.take (Try.prog.cellsOf 66) (List.drop 1 _) = _ at hc1
    rw [show Try.prog.cellsOf 66 = 4 from by kernel_rfl] at hc1
    simp only [List.drop_succ_cons, List.drop_zero, List.take_succ_cons, List.take_zero, List.cons.injEq, and_true] at hc1
    obtain ⟨rfl, rfl, rfl, rfl⟩ := hc1
    exact ⟨aa, ka, la, v0, v1, v2, ag, kg, lg, rfl, hma, hra, hsa, hmg, hkg, hrg⟩
def partRow (w : World) (cs : List Value) (x : PartD) : Prop := ∃ vl vo vt va vg vp, cs = x.cells vl vo vt va vg vp ∧ PtIs w x vl vo vt va vg vp ∧ PShort maxLen x
set_option maxRecDepth 100000 in
theorem decPart {H : Type} {enc : TypeId × Value → H} {W : World} (n : Nat) (cs : List Value) (y : DataW H × List MemPlace) (h : DataW.trod enc Try.prog W 0 (fun _ => true) true n 72 cs = some y) : ∃ x : PartD, partRow W cs x := by
  obtain ⟨xs, m, _, _, hlen, hxl, hg⟩ := DataW.trod_struct Try.underlying72 h
  rw [show Try.prog.cellsOf 72 = 16 from by kernel_rfl] at hlen
  match cs, hlen with
  | [c0, c1, c2, c3, c4, c5, c6, c7, c8, c9, c10, c11, c12, c13, c14, c15], _ =>
    have e1 : Try.prog.cellsOf 3 = 1 := by kernel_rfl
    have g0 := hg 0 _ rfl
    rw [List.getElem?_eq_getElem (by rw [hxl]; decide)] at g0
    obtain ⟨al, kl, ll, hc0, hml, hkl, hrl⟩ := decLabel _ _ _ g0
    change List.take (Try.prog.cellsOf 63) (List.drop 0 _) = _ at hc0
    rw [show Try.prog.cellsOf 63 = 1 from by kernel_rfl] at hc0
    simp only [List.drop_succ_cons, List.drop_zero, List.take_succ_cons, List.take_zero, List.cons.injEq, and_true] at hc0
    subst hc0
    have g1 := hg 1 _ rfl
    rw [List.getElem?_eq_getElem (by rw [hxl]; decide)] at g1
    obtain ⟨ao, no, ko, lo, hc1, hno, hmo, hko, hro⟩ := flat_of_trod ienc 1 Try.underlying33 (by kernel_rfl) (by decide) decInt g1
    change List.take (Try.prog.cellsOf 33) (List.drop 1 _) = _ at hc1
    rw [show Try.prog.cellsOf 33 = 1 from by kernel_rfl] at hc1
    simp only [List.drop_succ_cons, List.drop_zero, List.take_succ_cons, List.take_zero, List.cons.injEq, and_true] at hc1
    subst hc1
    subst hno
    rw [icell_flat] at hro
    have g2 := hg 2 _ rfl
    rw [List.getElem?_eq_getElem (by rw [hxl]; decide)] at g2
    obtain ⟨at_, nt, kt, lt, hc2, hnt, hmt, hkt, hrt⟩ := flat_of_trod Res.enc 5 Try.underlying64 (by kernel_rfl) (by decide) decRes g2
    change List.take (Try.prog.cellsOf 64) (List.drop 2 _) = _ at hc2
    rw [show Try.prog.cellsOf 64 = 1 from by kernel_rfl] at hc2
    simp only [List.drop_succ_cons, List.drop_zero, List.take_succ_cons, List.take_zero, List.cons.injEq, and_true] at hc2
    subst hc2
    subst hnt
    have g3 := hg 3 _ rfl
    rw [List.getElem?_eq_getElem (by rw [hxl]; decide)] at g3
    obtain ⟨aa, ka, la, v4, v5, v6, ag, kg, lg, hc3, hma, hra, hsa, hmg, hkg, hrg⟩ := decHeap _ _ _ g3
    change List.take (Try.prog.cellsOf 68) (List.drop 3 _) = _ at hc3
    rw [show Try.prog.cellsOf 68 = 5 from by kernel_rfl] at hc3
    simp only [List.drop_succ_cons, List.drop_zero, List.take_succ_cons, List.take_zero, List.cons.injEq, and_true] at hc3
    obtain ⟨rfl, rfl, rfl, rfl, rfl⟩ := hc3
    have g4 := hg 4 _ rfl
    rw [List.getElem?_eq_getElem (by rw [hxl]; decide)] at g4
    obtain ⟨ap, np, kp, lp, hc4, hnp, hmp, hkp, hrp⟩ := flat_of_trod Tap.enc 6 Try.underlying69 (by kernel_rfl) (by decide) decTap g4
    change List.take (Try.prog.cellsOf 69) (List.drop 8 _) = _ at hc4
    rw [show Try.prog.cellsOf 69 = 1 from by kernel_rfl] at hc4
    simp only [List.drop_succ_cons, List.drop_zero, List.take_succ_cons, List.take_zero, List.cons.injEq, and_true] at hc4
    subst hc4
    subst hnp
    obtain ⟨v9, rfl, _⟩ := fld_wf (hg 5 _ rfl) (by rw [hxl]; decide) Try.underlying3 (by show List.take (Try.prog.cellsOf 3) (List.drop 9 _) = [c9]; rw [e1]; rfl)
    obtain ⟨v10, rfl, _⟩ := fld_wf (hg 6 _ rfl) (by rw [hxl]; decide) Try.underlying3 (by show List.take (Try.prog.cellsOf 3) (List.drop 10 _) = [c10]; rw [e1]; rfl)
    have g7 := hg 7 _ rfl
    rw [List.getElem?_eq_getElem (by rw [hxl]; decide)] at g7
    obtain ⟨q0, q1, q2, hc7⟩ := decAmt _ _ _ g7
    change List.take (Try.prog.cellsOf 70) (List.drop 11 _) = _ at hc7
    rw [show Try.prog.cellsOf 70 = 3 from by kernel_rfl] at hc7
    simp only [List.drop_succ_cons, List.drop_zero, List.take_succ_cons, List.take_zero, List.cons.injEq, and_true] at hc7
    obtain ⟨rfl, rfl, rfl⟩ := hc7
    obtain ⟨v14, rfl, _⟩ := fld_wf (hg 8 _ rfl) (by rw [hxl]; decide) Try.underlying3 (by show List.take (Try.prog.cellsOf 3) (List.drop 14 _) = [c14]; rw [e1]; rfl)
    obtain ⟨v15, rfl, _⟩ := fld_wf (hg 9 _ rfl) (by rw [hxl]; decide) Try.underlying3 (by show List.take (Try.prog.cellsOf 3) (List.drop 15 _) = [c15]; rw [e1]; rfl)
    exact ⟨⟨ll, lo, lt, la, v4, v5, v6, lg, lp, v9, v10, ⟨q0, q1, q2⟩, v14, v15⟩, _, _, _, _, _, _, rfl, ⟨⟨al, kl, rfl, hkl, hrl⟩, ⟨ao, ko, rfl, hko, hro⟩, ⟨at_, kt, rfl, hkt, hrt⟩, ⟨aa, ka, rfl, hra⟩, ⟨ag, kg, rfl, hkg, hrg⟩, ⟨ap, kp, rfl, hkp, hrp⟩⟩, ⟨hml, hmo, hmt, hma, hmg, hmp, hsa⟩⟩
theorem parts_of_trod {H : Type} {enc : TypeId × Value → H} {W : World} {fuel : Nat} {cs0 : List Value} {y0 : DataW H × List MemPlace} (hf : DataW.trod enc Try.prog W 0 (fun _ => true) true fuel 22 cs0 = some y0) :
    ∃ (a : Option Addr) (cap : Nat) (l : List PartD), cs0 = [.slice a l.length cap] ∧ l.length ≤ maxLen ∧ PartsRd W a l ∧ ∀ x ∈ l, PShort maxLen x := by
  obtain ⟨a, n, cap, rows, l, h1, h2, h3, _, h4, h5, h6, h7⟩ := rows_of_trod partRow 16 Try.underlying22 (by kernel_rfl) (by decide) decPart hf
  have hrow : ∀ (k : Nat) (x : PartD), l[k]? = some x → ∃ c, rows[k]? = some c ∧ partRow W c x := fun k x hx => by
    have hk := (List.getElem?_eq_some_iff.1 hx).1
    obtain ⟨c, hc⟩ := some_at (l := rows) (k := k) (by omega)
    exact ⟨c, hc, h7 k c x hc hx⟩
  subst h2
  refine ⟨a, cap, l, h1, h3, ?_, ?_⟩
  · intro k x hx
    obtain ⟨c, hc, vl, vo, vt, va, vg, vp, rfl, ho, _⟩ := hrow k x hx
    rcases h4 with h4 | ⟨b, o, ha, hlt, hq⟩
    · have := flat_rows_get' h5 hc (j := 0) rfl
      rw [h4] at this
      simp at this
    · exact ⟨b, o, vl, vo, vt, va, vg, vp, ha, hlt, ho, fun j u hu => by rw [Nat.add_assoc]; exact hq _ u (flat_rows_get' h5 hc hu)⟩
  · intro x hx
    obtain ⟨k, hk⟩ := List.getElem?_of_mem hx
    obtain ⟨c, hc, vl, vo, vt, va, vg, vp, rfl, _, ho⟩ := hrow k x hk
    exact ho
set_option maxRecDepth 100000 in
theorem decWorld {H : Type} {enc : TypeId × Value → H} {W : World} (n : Nat) (cs : List Value) (y : DataW H × List MemPlace) (h : DataW.trod enc Try.prog W 0 (fun _ => true) true n 24 cs = some y) : ∃ (nw : Int) (a : Option Addr) (k : Nat) (l : List PartD), cs = [.int .i64 nw, .slice a l.length k] ∧ l.length ≤ maxLen ∧ PartsRd W a l ∧ ∀ x ∈ l, PShort maxLen x := by
  obtain ⟨xs, m, _, _, hlen, hxl, hg⟩ := DataW.trod_struct Try.underlying24 h
  rw [show Try.prog.cellsOf 24 = 2 from by kernel_rfl] at hlen
  match cs, hlen with
  | [c0, c1], _ =>
    have e1 : Try.prog.cellsOf 3 = 1 := by kernel_rfl
    obtain ⟨v0, rfl, _⟩ := fld_wf (hg 0 _ rfl) (by rw [hxl]; decide) Try.underlying3 (by show List.take (Try.prog.cellsOf 3) (List.drop 0 _) = [c0]; rw [e1]; rfl)
    have g1 := hg 1 _ rfl
    rw [List.getElem?_eq_getElem (by rw [hxl]; decide)] at g1
    obtain ⟨a, k, l, hc1, hm, hr, hs⟩ := parts_of_trod g1
    change List.take (Try.prog.cellsOf 22) (List.drop 1 _) = _ at hc1
    rw [show Try.prog.cellsOf 22 = 1 from by kernel_rfl] at hc1
    simp only [List.drop_succ_cons, List.drop_zero, List.take_succ_cons, List.take_zero, List.cons.injEq, and_true] at hc1
    subst hc1
    exact ⟨v0, a, k, l, rfl, hm, hr, hs⟩
set_option maxRecDepth 100000 in
theorem openWorld {H : Type} {enc : TypeId × Value → H} {W : World} {r : Reach} {b0 : Nat} {v : Value} {d : DataW H} {p : List MemPlace} (hval : Value.okWide Try.prog W r b0 24 v) (h : DataW.Trod enc Try.prog W 0 (fun _ => true) true 24 v d p) :
    ∃ (nw : Int) (a : Option Addr) (k : Nat) (l : List PartD), v = .agg #[.int .i64 nw, .slice a l.length k] ∧ l.length ≤ maxLen ∧ PartsRd W a l ∧ ∀ x ∈ l, PShort maxLen x := by
  obtain ⟨cs, rfl, hsz⟩ := okWide_struct Try.underlying24 hval
  obtain ⟨fuel, hf⟩ := h
  obtain ⟨nw, a, k, l, hx, hm, hr, hs⟩ := decWorld _ _ _ hf
  refine ⟨nw, a, k, l, ?_, hm, hr, hs⟩
  rw [show Value.cells (.agg cs) = cs from rfl] at hx
  rw [show cs = cs.toList.toArray from by simp, hx]

end Go.Proofs.Ytpiaahkfnefplaa
