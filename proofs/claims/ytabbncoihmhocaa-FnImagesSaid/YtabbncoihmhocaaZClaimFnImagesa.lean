/- The walk of the program's ShowTree. -/
import Derived.Test.YtabbncoihmhocaaRows
import Derived.Test.YtabbncoihmhocaaBase
import Derived.ProofKit
import Derived.OpenShut
import Derived.Carry
import Derived.Deep.Slices
import Derived.Deep.Fields
import Derived.Test.YtabbncoihmhocaaThingNew
import Derived.Deep.RegionLaw
import Derived.ChangeAlike
import Derived.Deep.DeepCutAuto
import Derived.Deep.LoopGhost
import Derived.Test.YtabbncoihmhocaaTreeImpl
import Derived.BigRegion
import Derived.Test.YtabbncoihmhocaaTreeLaws
import Derived.Test.YtabbncoihmhocaaApp
import Derived.Test.YtabbncoihmhocaaKeep
import Derived.Deep.RegionHeld3
import Derived.Test.YtabbncoihmhocaaDrawMore
import Derived.Test.YtabbncoihmhocaaShowPure
import Derived.Lib.QuietBelow
import Derived.Test.YtabbncoihmhocaaVarW
import Derived.Test.YtabbncoihmhocaaSeqPure
import Derived.Test.YtabbncoihmhocaaSmall
import Derived.Test.YtabbncoihmhocaaCnt
import Derived.Test.YtabbncoihmhocaaObjTo
import Derived.Test.YtabbncoihmhocaaRowsOwn
import Derived.Test.YtabbncoihmhocaaThingRet
import Derived.Test.YtabbncoihmhocaaThingsTo
import Derived.Test.YtabbncoihmhocaaShowArenaS
import Derived.Test.YtabbncoihmhocaaThingsSz
import Derived.Test.YtabbncoihmhocaaSameObj
namespace Go.Proofs.Ytabbncoihmhocaa
open Go.ChangeShapes Go.WideShapes Go.ChangeAt Go.RowKit Go.Deep

theorem Try.own0 : ownKnob Try.prog.godebug = none := by kernel_rfl
theorem Try.progEq0 : Try.checked.prog = Try.prog := rfl
theorem Try.laidOut0 : laidOutB Try.prog = true := by kernel_rfl

section
variable {H : Type} {enc : TypeId × Value → H} {P : Program}

theorem trodAll_below (hl : laidOutB P = true) {W W' : World} (hb : Below W.heap.size W W') : ∀ {ts : List TypeId} {vs : List Value} {ds : List (DataW H)} {ps : List MemPlace},
    (∀ t ∈ ts, P.readableRec t = true ∧ t < P.types.size) → (∀ x ∈ ps, x.block < W.heap.size) → DataW.TrodAll enc P W 0 (fun _ => true) true ts vs ds ps →
    DataW.TrodAll enc P W' 0 (fun b => decide (b < W.heap.size)) true ts vs ds ps
  | [], [], [], _, _, _, h => h
  | t :: ts, v :: vs, d :: ds, ps, hr, hlt, h => by
    obtain ⟨p, q, h1, h2, rfl⟩ := h
    exact ⟨p, q, Below.trod hl (hr t (by simp)).1 (hr t (by simp)).2 h1 hb (fun x hx => hlt x (by simp [hx])),
      trodAll_below hl hb (fun t ht => hr t (by simp [ht])) (fun x hx => hlt x (by simp [hx])) h2, rfl⟩

/-- The post of a law: true, and the arguments as they were. -/
theorem law_post {f : Func} {s : ChangeSpec} {W W' : World} {args : Array Value} {ds gs : List (DataW H)} {before : List MemPlace} (hl : laidOutB P = true)
    (hr : ∀ t ∈ f.params.toList, P.readableRec t = true ∧ t < P.types.size) {bt : TypeId} (hres : f.resultTypes = #[bt]) (hbt : P.underlying bt = some .bool)
    (hvars : s.vars = []) (hW : DataW.Whole enc P f.params.toList s.vars false W args.toList ds gs before) (hspec : s.fn H (ds ++ []) = { results := [.lit (.bool true)], args := ds })
    (hb : Below W.heap.size W W') : s.post enc P f false true false false W args (.bool true) W' := by
  have hlt : ∀ x ∈ before, x.block < W.heap.size := fun x hx => by simpa using hW.lt x hx
  have hW' := hW
  obtain ⟨p, q, hA, hV, rfl, hfz, hnd⟩ := hW
  rw [hvars] at hV
  obtain ⟨rfl, rfl⟩ := trodVars_none hV
  refine ⟨ds, [], p ++ [], [], p ++ [], [], hW', ?_, ?_, ?_, hb.frame _, fun h => by cases h⟩
  · rw [hspec, hres]
    exact trodAll_mk1 (shut_bool hbt _)
  · rw [hspec]
    simpa using trodAll_below hl hb hr (fun x hx => hlt x (by simp [hx])) hA
  · rw [hspec, hvars]
    rfl

/-- A slice's argument opened row by row: `dec` reads one row. -/
theorem open_rows {α : Type} [Inhabited α] (cells : World → List Value → α → Prop) {W : World} {t e : TypeId} {v : Value} {d : DataW H} {p : List MemPlace} (s : Nat) (ht : P.underlying t = some (.slice e)) (hC : P.cellsOf e = s) (hs : 0 < s)
    (hdec : ∀ n cs y, DataW.trod enc P W 0 (fun _ => true) true n e cs = some y → ∃ x, cells W cs x) {r : Reach} {b0 : Nat}
    (hval : Value.okWide P W r b0 t v) (h : DataW.Trod enc P W 0 (fun _ => true) true t v d p) :
    ∃ (a : Option Addr) (n cap : Nat) (rows : List (List Value)) (l : List α), v = .slice a n cap ∧ n = l.length ∧ n ≤ maxLen ∧ Rd W a rows.flatten ∧ (∀ c ∈ rows, c.length = s) ∧ rows.length = n ∧ (∀ (i : Nat) (c : List Value) (x : α), rows[i]? = some c → l[i]? = some x → cells W c x) := by
  obtain ⟨a0, n0, cap0, rfl⟩ := okWide_slice ht hval
  obtain ⟨fuel, hf⟩ := h
  rcases open_slice ht hf with ⟨hcs, _⟩ | ⟨a, len, cap, m, n, D, Pl, hcs, _, hlc, hcm, hm, _, hi⟩
  · simp [Value.cells] at hcs
    obtain ⟨rfl, rfl, rfl⟩ := hcs
    exact ⟨none, 0, 0, [], [], rfl, rfl, Nat.zero_le _, .inl rfl, by simp, rfl, by simp⟩
  · simp [Value.cells] at hcs
    obtain ⟨rfl, rfl, rfl⟩ := hcs
    simp only [if_true] at hm
    subst hm
    have hg : ∀ i, i < n0 → ∃ cs : List Value, cs.length = s ∧ (∀ j, j < s → W.cell? ((a.add (i * s)).add j) = cs[j]?) ∧ ∃ x, cells W cs x := by
      intro i hi'
      obtain ⟨cs, h1, h2⟩ := hi i (by omega)
      rw [hC] at h1
      obtain ⟨_, h3, h4⟩ := World.cells?_some h1
      exact ⟨cs, h3, h4, hdec _ _ _ h2⟩
    obtain ⟨R, hR⟩ := choose_lt (α := List Value) (p := fun i cs => cs.length = s ∧ (∀ j, j < s → W.cell? ((a.add (i * s)).add j) = cs[j]?) ∧ ∃ x, cells W cs x) hg
    have hX : ∀ i, i < n0 → ∃ x, cells W (R i) x := fun i hi' => (hR i hi').2.2
    obtain ⟨X, hX⟩ := choose_lt (α := α) hX
    refine ⟨some a, n0, _, (List.range n0).map R, (List.range n0).map X, rfl, by simp, by omega, ?_, ?_, by simp, ?_⟩
    · by_cases h0 : n0 = 0
      · subst h0; exact .inl rfl
      · obtain ⟨l0, c0, _⟩ := hR 0 (by omega)
        have hc0 := c0 0 hs
        obtain ⟨b, o, spot⟩ := a
        have hget : (R 0)[0]? = some ((R 0)[0]'(by omega)) := List.getElem?_eq_getElem (by omega)
        rw [hget] at hc0
        have hsp : spot = none := by simpa [Addr.add] using World.cell?_spot hc0
        subst hsp
        have hbl : b < W.heap.size := by
          have := World.block_lt_of_cell? W _ hc0
          simpa [Addr.add] using this
        refine .inr ⟨b, o, rfl, hbl, fun i u hu => ?_⟩
        have hlen : ∀ (k : Nat), k ≤ n0 → (((List.range k).map R).flatten).length = k * s := by
          intro k hk
          induction k with
          | zero => simp
          | succ k ih => rw [List.range_succ, List.map_append, List.flatten_append, List.length_append, ih (by omega)]; simp [(hR k (by omega)).1, Nat.add_mul]
        have hiu : i < n0 * s := by have := (List.getElem?_eq_some_iff.1 hu).1; rw [hlen n0 (Nat.le_refl _)] at this; exact this
        have hq : i / s < n0 := Nat.div_lt_of_lt_mul (by rw [Nat.mul_comm]; exact hiu)
        have hmod : i % s < s := Nat.mod_lt _ hs
        have hdm : i = i / s * s + i % s := by rw [Nat.mul_comm]; exact (Nat.div_add_mod i s).symm
        have hget2 := flat_get (α := Nat) (fun k => if k < n0 then R k else List.replicate s undef) s (fun k => by by_cases hk : k < n0 <;> simp [hk]; exact (hR k hk).1) (List.range n0) (i / s) (i / s) (by simp [hq]) (i % s) hmod
        have hfm : (List.range n0).flatMap (fun k => if k < n0 then R k else List.replicate s undef) = ((List.range n0).map R).flatten := by
          rw [List.flatMap_def]
          congr 1
          apply List.map_congr_left
          intro k hk
          simp at hk
          simp [hk]
        rw [hfm, ← hdm, if_pos hq, hu] at hget2
        have := (hR (i / s) hq).2.1 (i % s) hmod
        rw [← hget2] at this
        rw [← this]
        have e2 : o + i = o + i / s * s + i % s := by omega
        rw [e2]
        simp only [Addr.add]
        by_cases z1 : i / s * s = 0 <;> by_cases z2 : i % s = 0 <;> simp [z1, z2]
    · intro c hc
      simp at hc
      obtain ⟨k, hk, rfl⟩ := hc
      exact (hR k hk).1
    · intro i c x hc hx
      simp [List.getElem?_eq_some_iff] at hc hx
      obtain ⟨k1, ⟨hk1, rfl⟩, rfl⟩ := hc
      obtain ⟨k2, ⟨hk2, rfl⟩, rfl⟩ := hx
      exact hX _ hk1

/-- A field that is an int, a bool: its cell. -/
theorem fld_int {W : World} {n : Nat} {t : TypeId} {cs : List Value} {xs : List (DataW H × List MemPlace)} {j : Nat} {c : Value} (h : DataW.trod enc P W 0 (fun _ => true) true n t cs = xs[j]?) (hj : j < xs.length) (ht : P.underlying t = some (.int .i64)) (hc : cs = [c]) :
    ∃ v, c = .int .i64 v := by
  rw [List.getElem?_eq_getElem hj] at h
  obtain ⟨v, hv, _⟩ := DataW.trod_int ht h
  exact ⟨v, by rw [hc] at hv; simpa using hv⟩
theorem fld_bool {W : World} {n : Nat} {t : TypeId} {cs : List Value} {xs : List (DataW H × List MemPlace)} {j : Nat} {c : Value} (h : DataW.trod enc P W 0 (fun _ => true) true n t cs = xs[j]?) (hj : j < xs.length) (ht : P.underlying t = some .bool) (hc : cs = [c]) :
    ∃ v, c = .bool v := by
  rw [List.getElem?_eq_getElem hj] at h
  obtain ⟨v, hv, _⟩ := DataW.trod_bool ht h
  exact ⟨v, by rw [hc] at hv; simpa using hv⟩

/-- The same where a row's cells tell the element (`enc`). -/
theorem open_flat {α : Type} [Inhabited α] (cod : α → List Value) {W : World} {t e : TypeId} {v : Value} {d : DataW H} {p : List MemPlace} (s : Nat) (ht : P.underlying t = some (.slice e)) (hC : P.cellsOf e = s) (hs : 0 < s)
    (hdec : ∀ n cs y, DataW.trod enc P W 0 (fun _ => true) true n e cs = some y → ∃ x, cs = cod x) {r : Reach} {b0 : Nat}
    (hval : Value.okWide P W r b0 t v) (h : DataW.Trod enc P W 0 (fun _ => true) true t v d p) :
    ∃ (a : Option Addr) (n cap : Nat) (l : List α), v = .slice a n cap ∧ n = l.length ∧ n ≤ maxLen ∧ Rd W a (l.flatMap cod) := by
  obtain ⟨a, n, cap, rows, l, h1, h2, h3, h4, _, h6, h7⟩ := open_rows (fun _ cs x => cs = cod x) s ht hC hs hdec hval h
  refine ⟨a, n, cap, l, h1, h2, h3, ?_⟩
  have : rows = l.map cod := by
    apply List.ext_getElem?
    intro i
    by_cases hi : i < n
    · have e1 := List.getElem?_eq_getElem (l := rows) (i := i) (by omega)
      have e2 := List.getElem?_eq_getElem (l := l) (i := i) (by omega)
      rw [List.getElem?_map, e2, e1, h7 i _ _ e1 e2]
      rfl
    · rw [List.getElem?_eq_none (by omega), List.getElem?_eq_none (by simp; omega)]
  rw [this] at h4
  rw [List.flatMap_def]
  exact h4

end
end Go.Proofs.Ytabbncoihmhocaa

namespace Go.Proofs.Ytabbncoihmhocaa
open Go.RowKit

theorem arenaFree_ts {w : World} {B M n c : Nat} {p : Option Addr} {ts : List TE} (ht : TS w B M true (.slice p n c) n ts) (hn : n ≤ 1048576) (hM : M ≤ 1048576) (i : Int) :
    Calls Try.prog 63 #[.slice p n c, .int .i64 i] w (Made w M n) := by
  have := arenaFree_any (ts.map (·.t)) p c M (by rw [List.length_map, ht.len]; exact hn) hM (fun x hx => by obtain ⟨y, hy, rfl⟩ := List.mem_map.1 hx; exact (ht.el y hy).s) i w ht.rd
  rwa [List.length_map, ht.len] at this
theorem arenaPut_ts {w : World} {B M n c : Nat} {p : Option Addr} {ts : List TE} {ob : Thing} {vl vd vq : Value} (ht : TS w B M true (.slice p n c) n ts) (hn : n ≤ 1048576) (hM : M ≤ 1048576) {B' : Nat} (ho : TEOk w B' M true ⟨ob, vl, vd, vq⟩) :
    Calls Try.prog 64 #[.slice p n c, .agg #[.int .i64 ob.gen, .int .i64 ob.kind, .int .i64 ob.box, .int .i64 ob.res, .int .i64 ob.til, .int .i64 ob.pages, .int .i64 ob.wait, .int .i64 ob.got, .int .i64 ob.ran, .bool ob.mark, vl, vd, vq]] w (MadeI w M n) := by
  have := arenaPut_any (ts.map (·.t)) p c M (by rw [List.length_map, ht.len]; exact hn) hM (fun x hx => by obtain ⟨y, hy, rfl⟩ := List.mem_map.1 hx; exact (ht.el y hy).s) ob vl vd vq ho.s w ⟨owns_sl ho.l, owns_sl ho.d, owns_sl ho.q⟩ ht.rd
  rwa [List.length_map, ht.len] at this
def ArenaDrawn (W : World) (cb : Nat) (w : World) (M m : Nat) (lk : Bool) (e : Ending) (w' : World) : Prop := ∃ v n ts, e = .returned v ∧ TS w' w.heap.size M lk v n ts ∧ n ≤ 10 ∧ m ≤ n ∧ Drew W cb w w'
set_option maxRecDepth 100000 in
set_option maxHeartbeats 4000000 in
theorem l8Arena_any {W w : World} {cb : Nat} (h : DE W cb w) : Calls Try.prog 41 #[.pointer (some ⟨cb, 0, none⟩)] w (ArenaDrawn W cb w 100 10 true) := by
  have hW := h.lt.2
  have H0 := hideP (Drew.refl h)
  clear h
  go_enter Try.func41, Try.ntmps41
  go_wp2_with fail
  refine (arenaNew_any w).mono ?_
  rintro e w1 ⟨v, ts, rfl, ht, hb⟩
  have HT := hideP (ht.mono (Nat.le_refl _) (show 2 ≤ 100 by decide) (fun e => e))
  have HD := hideP (H0.out.below hb)
  clear ht hb H0
  go_wp2_with fail
  refine (de_below 14 (by omega) (by omega) HD.out.1).mono ?_
  rintro e w2 ⟨y, rfl, y0, y1, hd⟩
  have HT := hideP (HT.out.drew hd hW)
  have HD := hideP (HD.out.trans hd)
  obtain ⟨y, rfl⟩ := Int.eq_ofNat_of_zero_le y0
  clear hd y0
  go_wp2
  go_loopg [3, 4] 15 (fun gk v iv wr => ∃ (y : Nat) (ts : List TE), y < gk ∧ (y : Int) ≤ 13 ∧ iv = .int .i64 (y : Int) ∧ Hid (TS wr w.heap.size 100 true v 10 ts) ∧ Hid (Drew W cb w wr))
  case atStart => exact ⟨y, ts, by omega, by omega, rfl, HT, HD⟩
  case round =>
    clear HT HD y1
    obtain ⟨y, ts, hgk, hy, rfl, HT, HD⟩ := hrel
    have hz := HD.out.2.size
    by_cases hp : 0 < y
    · obtain ⟨sa, sc, rfl, _⟩ := owns_slice HT.out.row
      go_wp2_with fail
      refine (de_onceB 5 (by omega) (by omega) HD.out.1).mono ?_
      rintro e w3 ⟨b, rfl, hd⟩
      have HT := hideP (HT.out.drew hd hW)
      have HD := hideP (HD.out.trans hd)
      have hz3 := hd.2.size
      clear hd
      cases b
      · go_wp2_with fail
        refine (l8New_any HD.out.1 HT.out (by omega) (by decide)).mono ?_
        rintro e w4 ⟨ob, vl, vd, vq, rfl, ho, hd⟩
        have HT := hideP (HT.out.drew hd hW)
        have HD := hideP (HD.out.trans hd)
        have HO := hideP ho
        have hz4 := hd.2.size
        clear hd ho
        go_wp2_with fail
        refine (arenaPut_ts HT.out (by decide) (by decide) HO.out).mono ?_
        rintro e w5 ⟨v5, ts5, b5, rfl, ht, hb⟩
        have HT5 := hideP (ht.mono (show w.heap.size ≤ w4.heap.size by omega) (Nat.le_refl _) (fun e => e))
        have HD5 := hideP (HD.out.below hb)
        clear ht hb HT HD HO
        go_wp2
        go_roundg (gk - 1)
        case measure => omega
        case rel => exact ⟨y - 1, ts5, by omega, by omega, by go_num, HT5, HD5⟩
      · go_wp2_with fail
        refine (de_below 10 (by omega) (by omega) HD.out.1).mono ?_
        rintro e w4 ⟨k, rfl, k0, k1, hd⟩
        have HT := hideP (HT.out.drew hd hW)
        have HD := hideP (HD.out.trans hd)
        have hz4 := hd.2.size
        clear hd
        go_wp2_with fail
        refine (arenaFree_ts HT.out (by decide) (by decide) k).mono ?_
        rintro e w5 ⟨v5, ts5, b5, rfl, ht, hb⟩
        have HT5 := hideP (ht.mono (show w.heap.size ≤ w4.heap.size by omega) (Nat.le_refl _) (fun e => e))
        have HD5 := hideP (HD.out.below hb)
        clear ht hb HT HD
        go_wp2
        go_roundg (gk - 1)
        case measure => omega
        case rel => exact ⟨y - 1, ts5, by omega, by omega, by go_num, HT5, HD5⟩
    · obtain ⟨g, cv, cs, rfl, hgB, _, _⟩ := HT.out.block (by decide)
      go_wp2
      go_loopg [9] 11 (fun gk1 iv wr => ∃ (k : Nat) (ts : List TE), 10 < gk1 + k ∧ k ≤ 10 ∧ iv = .int .i64 (k : Int) ∧ Hid (TS wr w.heap.size 100 true (.slice (some ⟨g, 0, none⟩) 10 cv) 10 ts) ∧ Hid (Drew W cb w wr))
      case atStart => exact ⟨0, ts, by omega, by omega, rfl, HT, HD⟩
      case round =>
        clear HT HD hz
        obtain ⟨k, ts, hgk1, hk, rfl, HT, HD⟩ := hrel
        by_cases hlt : k < 10
        · obtain ⟨⟨t, ul, ud, uq⟩, hy⟩ := some_at (l := ts) (k := k) (by have := HT.out.len; omega)
          have HY := hideP hy
          have a1 := (HT.out.cell hy (j := 1) rfl).1
          dsimp only at a1
          have k0 : (0 : Int) ≤ (k : Int) := by omega
          have k1 : (k : Int) < 10 := by omega
          clear hy
          by_cases hz : t.kind = 0
          · have dz : (t.kind != 0) = false := by simp [hz]
            clear hz
            go_wp2
            go_roundg (gk - 1)
            case measure => omega
            case rel => exact ⟨k + 1, ts, by omega, by omega, by go_num, HT, HD⟩
          · have dz : (t.kind != 0) = true := by simp [hz]
            have HZ : Hid (t.kind ≠ 0) := hideP hz
            clear hz
            go_wp2_with fail
            refine (de_onceB 4 (by omega) (by omega) HD.out.1).mono ?_
            rintro e w3 ⟨b, rfl, hd⟩
            have HT := hideP (HT.out.drew hd hW)
            have HD := hideP (HD.out.trans hd)
            clear hd a1
            cases b
            · go_wp2
              go_roundg (gk - 1)
              case measure => omega
              case rel => exact ⟨k + 1, ts, by omega, by omega, by go_num, HT, HD⟩
            · go_wp2_with fail
              refine (de_below 10 (by omega) (by omega) HD.out.1).mono ?_
              rintro e w4 ⟨mm, rfl, m0, m1, hd⟩
              obtain ⟨m, rfl⟩ := Int.eq_ofNat_of_zero_le m0
              have HT := hideP (HT.out.drew hd hW)
              have HD := hideP (HD.out.trans hd)
              have hm : m < 10 := by omega
              have hm' : (m : Int) < 10 := by omega
              clear hd
              obtain ⟨⟨t2, ul2, ud2, uq2⟩, hy2⟩ := some_at (l := ts) (k := m) (by have := HT.out.len; omega)
              have a2 := (HT.out.cell hy2 (j := 1) rfl).1
              dsimp only at a2
              clear hy2
              by_cases hz2 : t2.kind = 0
              · have dz2 : (t2.kind != 0) = false := by simp [hz2]
                clear hz2
                go_wp2
                go_roundg (gk - 1)
                case measure => omega
                case rel => exact ⟨k + 1, ts, by omega, by omega, by go_num, HT, HD⟩
              · have dz2 : (t2.kind != 0) = true := by simp [hz2]
                clear hz2
                have h2l : 2 ≤ t.links.length := (HT.out.el _ (List.mem_of_getElem? HY.out)).s.k rfl HZ.out
                have hLl : RI w4 w.heap.size ul t.links := (HT.out.el _ (List.mem_of_getElem? HY.out)).l
                obtain ⟨g2, c2, cs2, rfl, hg2, hg2l, hB2, hc2, hf2⟩ := hLl.block (by omega)
                have a10 := (HT.out.cell HY.out (j := 10) rfl).1
                dsimp only at a10
                clear hLl hB2 hc2 hf2
                go_wp2
                clear a2
                go_region_law (go_simp; go_at_call 46; refine (de_below 2 (by omega) (by omega) (show DE W cb w4.drew from HD.out.1)).mono ?_; rintro e w8 ⟨jj, rfl, jj0, jj1, hd⟩; obtain ⟨j, rfl⟩ := Int.eq_ofNat_of_zero_le jj0; replace hd := Drew.undrew hd; have HT8 := hideP (HT.out.drew hd hW); have HD8 := hideP (HD.out.trans hd); have a8 : w8.cell? ⟨g, k * 13 + 10, none⟩ = some (.slice (some ⟨g2, 0, none⟩) t.links.length c2) := (HT8.out.cell HY.out (j := 10) rfl).1; obtain ⟨⟨z, e0⟩, fe0, _, cs3, hB3⟩ := linkCell (HT8.out.el _ (List.mem_of_getElem? HY.out)).l (show j < t.links.length by omega); have HB3 := hideP hB3; have jl : (j : Int) < (t.links.length : Int) := (by omega); clear hd hB3; go_wp2_with fail)
                all_goals
                  have HT9 := hideP (HT8.out.put (j := j) (z := (m : Int)) HB3.out)
                  have HD9 := hideP (HD8.out.set (g := g2) (i := j) (v := .int .i64 (m : Int)) hW hg2)
                  clear HT HD HT8 HD8 HB3 a8 a10 e0 fe0 HY HZ
                  go_wp2
                  go_roundg (gk - 1)
                  case measure => omega
                  case rel => exact ⟨k + 1, _, by omega, by omega, by go_num, HT9, HD9⟩
        · go_wp2
          go_ret
          exact ⟨_, 10, ts, rfl, HT.out, by decide, by decide, HD.out⟩

end Go.Proofs.Ytabbncoihmhocaa

namespace Go.Proofs.Ytabbncoihmhocaa
open Go.RowKit

set_option maxRecDepth 100000 in
set_option maxHeartbeats 4000000 in
theorem l8Any_any {W w : World} {cb : Nat} (h : DE W cb w) : Calls Try.prog 36 #[.pointer (some ⟨cb, 0, none⟩)] w (ArenaDrawn W cb w 101 0 false) := by
  obtain ⟨i0, hi, hz0, hz1, hz2⟩ := info_parts Try.infoIntB
  have hW := h.lt.2
  have hcb := h.lt.1
  have H0 := hideP h
  clear h
  go_enter Try.func36, Try.ntmps36
  go_wp2_with fail
  refine (l8Arena_any H0.out).mono ?_
  rintro e w1 ⟨v, n, ts, rfl, ht, hn1, hn2, hd⟩
  obtain rfl : n = 10 := by omega
  have HT := hideP ht
  have HD := hideP hd
  clear ht hd H0 hn1 hn2
  obtain ⟨g, cv, cs, rfl, hgB, _, _⟩ := HT.out.block (by decide)
  go_wp2_with fail
  refine (de_below 10 (by omega) (by omega) HD.out.1).mono ?_
  rintro e w2 ⟨kk, rfl, kk0, kk1, hd⟩
  obtain ⟨k, rfl⟩ := Int.eq_ofNat_of_zero_le kk0
  have HT := hideP (HT.out.drew hd hW)
  have HD := hideP (HD.out.trans hd)
  clear hd kk0
  go_wp2_with fail
  refine (de_below 24 (by omega) (by omega) HD.out.1).mono ?_
  rintro e w3 ⟨y, rfl, y0, y1, hd⟩
  have HT := hideP (HT.out.drew hd hW)
  have HD := hideP (HD.out.trans hd)
  have HTm : Hid (TS w3 w.heap.size 101 false (.slice (some ⟨g, 0, none⟩) 10 cv) 10 ts) := hideP (HT.out.mono (Nat.le_refl _) (by decide) (fun e => by cases e))
  have HCV : Hid (10 ≤ cv) := hideP (by obtain ⟨a, c, e, h⟩ := owns_slice HT.out.row; cases e; exact h)
  obtain ⟨⟨t, ul, ud, uq⟩, hy⟩ := some_at (l := ts) (k := k) (by have := HT.out.len; omega)
  have HY := hideP hy
  have k0 : (0 : Int) ≤ (k : Int) := by omega
  have k1 : (k : Int) < 10 := by omega
  clear hd hy
  obtain rfl | rfl | rfl | rfl | rfl | rfl | rfl | hy : y = 0 ∨ y = 1 ∨ y = 2 ∨ y = 3 ∨ y = 4 ∨ y = 5 ∨ y = 6 ∨ 7 ≤ y := by omega
  · have HN := hideP (HTm.out.take (show k ≤ 10 by omega))
    clear HT HTm
    have kz : (k : Int) ≤ 10 := by omega
    have kc : (10 : Nat) ≤ cv := by have := HCV.out; omega
    have kc2 : (k : Int) ≤ (cv : Int) := by omega
    go_wp2
    go_ret
    exact ⟨_, k, _, rfl, HN.out, by omega, by omega, HD.out⟩
  · go_wp2_with fail
    have HT4 := hideP (HTm.out.below (below_a1 w3 (.cells #[.int .i64 (-2), .int .i64 10, .int .i64 9, .int .i64 0] 3)))
    have HD4 := hideP (HD.out.below (below_a1 w3 (.cells #[.int .i64 (-2), .int .i64 10, .int .i64 9, .int .i64 0] 3)))
    refine (de_pick [-2, 10, 9, 0] 4 rfl (by decide) (by decide) HD4.out.1 (lit_cells w3 [-2, 10, 9, 0] 3) (by have := HD.out.2.size; omega)).mono ?_
    rintro e w5 ⟨x, hx, rfl, hd⟩
    have HT5 := hideP ((HT4.out).drew hd hW)
    have HD5 := hideP (HD4.out.trans hd)
    obtain ⟨aj, faj⟩ := HT5.out.cell HY.out (j := 2) rfl
    dsimp only at aj
    have HN := hideP (HT5.out.field (x' := ⟨{ t with box := x }, ul, ud, uq⟩) HY.out (j := 2) (u := .int .i64 x) (by decide) rfl (by have := HT5.out.el _ (List.mem_of_getElem? HY.out); exact ⟨this.l, this.d, this.q, ⟨this.s.l, this.s.d, this.s.q, this.s.w, fun e => by cases e⟩⟩) rfl rfl (fun e => e))
    have HDN := hideP (HD5.out.set (g := g) (i := k * 13 + 2) (v := .int .i64 x) hW hgB)
    clear hd HT4 HD4 HT5 HD5 HT HD HTm
    go_wp2
    go_ret
    exact ⟨_, 10, _, rfl, HN.out, by decide, by decide, HDN.out⟩
  · go_wp2_with fail
    have HT4 := hideP HTm.out
    have HD4 := hideP HD.out
    refine (de_below 6 (by omega) (by omega) HD.out.1).mono ?_
    rintro e w5 ⟨x, rfl, x0, x1, hd⟩
    have HT5 := hideP ((HT4.out).drew hd hW)
    have HD5 := hideP (HD4.out.trans hd)
    obtain ⟨aj, faj⟩ := HT5.out.cell HY.out (j := 1) rfl
    dsimp only at aj
    have HN := hideP (HT5.out.field (x' := ⟨{ t with kind := x }, ul, ud, uq⟩) HY.out (j := 1) (u := .int .i64 x) (by decide) rfl (by have := HT5.out.el _ (List.mem_of_getElem? HY.out); exact ⟨this.l, this.d, this.q, ⟨this.s.l, this.s.d, this.s.q, this.s.w, fun e => by cases e⟩⟩) rfl rfl (fun e => e))
    have HDN := hideP (HD5.out.set (g := g) (i := k * 13 + 1) (v := .int .i64 x) hW hgB)
    clear hd HT4 HD4 HT5 HD5 HT HD HTm
    go_wp2
    go_ret
    exact ⟨_, 10, _, rfl, HN.out, by decide, by decide, HDN.out⟩
  · go_wp2_with fail
    have HT4 := hideP (HTm.out.below (below_a1 w3 (.cells #[.int .i64 (-1), .int .i64 999, .int .i64 1000] 3)))
    have HD4 := hideP (HD.out.below (below_a1 w3 (.cells #[.int .i64 (-1), .int .i64 999, .int .i64 1000] 3)))
    refine (de_pick [-1, 999, 1000] 3 rfl (by decide) (by decide) HD4.out.1 (lit_cells w3 [-1, 999, 1000] 3) (by have := HD.out.2.size; omega)).mono ?_
    rintro e w5 ⟨x, hx, rfl, hd⟩
    have HT5 := hideP ((HT4.out).drew hd hW)
    have HD5 := hideP (HD4.out.trans hd)
    obtain ⟨aj, faj⟩ := HT5.out.cell HY.out (j := 0) rfl
    simp only [Nat.add_zero] at aj faj
    have HN := hideP (HT5.out.field (x' := ⟨{ t with gen := x }, ul, ud, uq⟩) HY.out (j := 0) (u := .int .i64 x) (by decide) rfl (by have := HT5.out.el _ (List.mem_of_getElem? HY.out); exact ⟨this.l, this.d, this.q, ⟨this.s.l, this.s.d, this.s.q, this.s.w, fun e => by cases e⟩⟩) rfl rfl (fun e => e))
    have HDN := hideP (HD5.out.set (g := g) (i := k * 13) (v := .int .i64 x) hW hgB)
    clear hd HT4 HD4 HT5 HD5 HT HD HTm
    go_wp2
    go_ret
    exact ⟨_, 10, _, rfl, HN.out, by decide, by decide, HDN.out⟩
  · have hLl : RI w3 w.heap.size ul t.links := (HT.out.el _ (List.mem_of_getElem? HY.out)).l
    have hl100 : t.links.length ≤ 100 := (HT.out.el _ (List.mem_of_getElem? HY.out)).s.l
    obtain ⟨pl, ql, rfl, _⟩ := owns_slice hLl
    have HLl := hideP hLl
    have a10 := (HT.out.cell HY.out (j := 10) rfl).1
    dsimp only at a10
    have e10 := cell_alloc_keepB a10 (.cells #[.int .i64 0] 3)
    have HTA := hideP (HT.out.below (below_a1 w3 (.cells #[.int .i64 0] 3)))
    have HDA := hideP (HD.out.below (below_a1 w3 (.cells #[.int .i64 0] 3)))
    have hz := HD.out.2.size
    clear hLl
    go_wp2_with (at_builtin; refine wpList_append_rdat _ rfl _ _ 31 rfl w.heap.size 3 i0 (.int .i64 0) 1 8 Try.underlying31 hi hz0 hz1 hz2 rfl (by decide) _ t.links.length _ rfl (World.ownsRow.alloc HLl.out _) _ 1 1 [.int .i64 0] rfl rfl (rd_litg (by rfl) rfl) ?c1 ?c2 ?c3 ?c4 ?_)
    case c1 => simp [Value.oneCell']
    case c2 => unfold maxLen; omega
    case c3 => omega
    case c4 => simp; omega
    intro v9 w9 ho9 hg9 hat9
    obtain ⟨p9, q9, rfl, _⟩ := owns_slice ho9
    obtain ⟨g', cv', cs, e, _, _, hBl⟩ := HTA.out.block (by decide)
    cases e
    have hB9 := (KeptP.of_grown hg9).blk hBl (fun e => rowNe (World.ownsRow.alloc HLl.out (.cells #[.int .i64 0] 3)) hBl (by decide) _ e rfl)
    have b10 : w9.cell? ⟨g, k * 13 + 10, none⟩ = some (.slice pl t.links.length ql) := by
      have h1 := (HTA.out.cell HY.out (j := 10) rfl).1
      rw [hBl.cell] at h1
      rw [hB9.cell]
      exact h1
    have fb10 : w9.frozen? ⟨g, k * 13 + 10, none⟩ = false := hB9.frozen _
    have hl9 : (t.links ++ [(0 : Int)]).length = t.links.length + 1 := by simp
    have ho : RI w9 w.heap.size (.slice p9 (t.links.length + 1) q9) (t.links ++ [(0 : Int)]) := by unfold RI; rw [hl9, show icell (t.links ++ [(0 : Int)]) = icell t.links ++ [.int .i64 0] by simp [icell]]; exact ho9
    have HN := hideP (HTA.out.links (M' := 101) (lk' := false) HY.out hg9 (by rw [World.size_alloc]; exact hat9) ho (by omega) (by decide) (fun e => by cases e) (fun e => by cases e))
    have HDN := hideP (((HDA.out.own hg9 hW (fun q e => (World.ownsRow.lt (World.ownsRow.alloc HLl.out (.cells #[.int .i64 0] 3)) q e).1))).set (g := g) (i := k * 13 + 10) (v := .slice p9 (t.links.length + 1) q9) hW hgB)
    clear ho9 hg9 hat9 hBl hB9 ho HTA HDA HT HD HTm HLl a10 e10
    go_wp2
    go_ret
    exact ⟨_, 10, _, rfl, HN.out, by decide, by decide, HDN.out⟩
  · go_wp2_with fail
    have HT4 := hideP (HTm.out.below (below_a1 w3 (.cells #[.int .i64 (-1), .int .i64 1000001, .int .i64 0] 3)))
    have HD4 := hideP (HD.out.below (below_a1 w3 (.cells #[.int .i64 (-1), .int .i64 1000001, .int .i64 0] 3)))
    refine (de_pick [-1, 1000001, 0] 3 rfl (by decide) (by decide) HD4.out.1 (lit_cells w3 [-1, 1000001, 0] 3) (by have := HD.out.2.size; omega)).mono ?_
    rintro e w5 ⟨x, hx, rfl, hd⟩
    have HT5 := hideP ((HT4.out).drew hd hW)
    have HD5 := hideP (HD4.out.trans hd)
    obtain ⟨aj, faj⟩ := HT5.out.cell HY.out (j := 4) rfl
    dsimp only at aj
    have HN := hideP (HT5.out.field (x' := ⟨{ t with til := x }, ul, ud, uq⟩) HY.out (j := 4) (u := .int .i64 x) (by decide) rfl (by have := HT5.out.el _ (List.mem_of_getElem? HY.out); exact ⟨this.l, this.d, this.q, ⟨this.s.l, this.s.d, this.s.q, this.s.w, fun e => by cases e⟩⟩) rfl rfl (fun e => e))
    have HDN := hideP (HD5.out.set (g := g) (i := k * 13 + 4) (v := .int .i64 x) hW hgB)
    clear hd HT4 HD4 HT5 HD5 HT HD HTm
    go_wp2
    go_ret
    exact ⟨_, 10, _, rfl, HN.out, by decide, by decide, HDN.out⟩
  · go_wp2_with fail
    have HT4 := hideP (HTm.out.below (below_a1 w3 (.cells #[.int .i64 (-1), .int .i64 30000, .int .i64 30001, .int .i64 1] 3)))
    have HD4 := hideP (HD.out.below (below_a1 w3 (.cells #[.int .i64 (-1), .int .i64 30000, .int .i64 30001, .int .i64 1] 3)))
    refine (de_pick [-1, 30000, 30001, 1] 4 rfl (by decide) (by decide) HD4.out.1 (lit_cells w3 [-1, 30000, 30001, 1] 3) (by have := HD.out.2.size; omega)).mono ?_
    rintro e w5 ⟨x, hx, rfl, hd⟩
    have HT5 := hideP ((HT4.out).drew hd hW)
    have HD5 := hideP (HD4.out.trans hd)
    have HW : Hid (I64 x) := hideP (by simp at hx; unfold I64; omega)
    obtain ⟨aj, faj⟩ := HT5.out.cell HY.out (j := 6) rfl
    dsimp only at aj
    have HN := hideP (HT5.out.field (x' := ⟨{ t with wait := x }, ul, ud, uq⟩) HY.out (j := 6) (u := .int .i64 x) (by decide) rfl (by have := HT5.out.el _ (List.mem_of_getElem? HY.out); exact ⟨this.l, this.d, this.q, ⟨this.s.l, this.s.d, this.s.q, HW.out, fun e => by cases e⟩⟩) rfl rfl (fun e => e))
    have HDN := hideP (HD5.out.set (g := g) (i := k * 13 + 6) (v := .int .i64 x) hW hgB)
    clear hd HT4 HD4 HT5 HD5 HT HD HTm
    go_wp2
    go_ret
    exact ⟨_, 10, _, rfl, HN.out, by decide, by decide, HDN.out⟩
  · go_wp2
    go_ret
    exact ⟨_, 10, ts, rfl, HTm.out, by decide, by decide, HD.out⟩

end Go.Proofs.Ytabbncoihmhocaa

namespace Go.Proofs.Ytabbncoihmhocaa
open Go.RowKit

structure OS (W : World) (cb : Nat) (w : World) (O : Nat) (x : TE) (w' : World) : Prop where
  r : Blk w' w.heap.size 34 [.int .i64 0, .int .i64 0, .int .i64 0, .int .i64 0, .int .i64 0, .int .i64 0, .int .i64 0, .int .i64 0, .int .i64 0, .bool false, .slice none 0 0, .slice none 0 0, .slice none 0 0]
  o : Blk w' O 34 x.enc
  e : TEOk w' w.heap.size 200 false x
  d : Drew W cb w w'
  hW : W.heap.size ≤ w.heap.size
  hO : w.heap.size < O
section
variable {W w w1 w2 : World} {cb O : Nat} {x : TE}
theorem OS.drew (h : OS W cb w O x w1) (hd : Drew W cb w1 w2) : OS W cb w O x w2 := ⟨hd.blk h.r h.hW, hd.blk h.o (Nat.le_of_lt (Nat.lt_of_le_of_lt h.hW h.hO)), h.e.drew hd h.hW, h.d.trans hd, h.hW, h.hO⟩
theorem OS.below (h : OS W cb w O x w1) (hb : Below w1.heap.size w1 w2) : OS W cb w O x w2 := ⟨h.r.below hb, h.o.below hb, h.e.below hb, h.d.below hb, h.hW, h.hO⟩
theorem OS.field {j : Nat} {u : Value} {x' : TE} (h : OS W cb w O x w1) (he : x'.enc = x.enc.set j u) (h' : TEOk w1 w.heap.size 200 false x') : OS W cb w O x' (w1.setCell ⟨O, j, none⟩ u) :=
  ⟨h.r.other j u (Nat.ne_of_lt h.hO), by rw [he]; exact h.o.set j u, h'.other h.o (by decide) (by decide), h.d.set h.hW (Nat.le_of_lt h.hO), h.hW, h.hO⟩
theorem OS.data {t : Thing} {L D Q D' : Value} {ls' : List Int} (h : OS W cb w O ⟨t, L, D, Q⟩ w1) (hg : w1.grownBy w2 D.ownBlock) (hap : ∀ q, L.ownBlock = some q → D.ownBlock ≠ some q) (ho : RI w2 w.heap.size D' ls') (hs : ls'.length ≤ 200) :
    OS W cb w O ⟨{ t with data := ls' }, L, D', Q⟩ (w2.setCell ⟨O, 11, none⟩ D') := by
  have k := KeptP.of_grown hg
  have hO := h.hO
  have r2 := k.blk h.r (fun e => rowNe h.e.d h.r (by decide) _ e rfl)
  have o2 := k.blk h.o (fun e => rowNe h.e.d h.o (by decide) _ e rfl)
  have m2 : RI w2 w.heap.size L t.links := k.owns h.e.l (fun q e e' => hap q e e')
  have q2 : RM w2 w.heap.size Q t.queue := k.owns h.e.q (fun q e e' => rowNe2 h.e.q h.e.d (by decide) q e e')
  have d2 := h.d.own hg h.hW (fun q e => (h.e.d.lt q e).1)
  have e2 : TEOk w2 w.heap.size 200 false ⟨{ t with data := ls' }, L, D', Q⟩ := ⟨m2, ho, q2, ⟨h.e.s.l, hs, h.e.s.q, h.e.s.w, fun e => by cases e⟩⟩
  exact ⟨r2.other 11 D' (by omega), o2.set 11 D', e2.other o2 (by decide) (by decide), d2.set h.hW (by omega), h.hW, hO⟩
theorem OS.queue {t : Thing} {L D Q Q' : Value} {ls' : List Msg} (h : OS W cb w O ⟨t, L, D, Q⟩ w1) (hg : w1.grownBy w2 Q.ownBlock) (ho : RM w2 w.heap.size Q' ls') (hs : ls'.length ≤ 200) :
    OS W cb w O ⟨{ t with queue := ls' }, L, D, Q'⟩ (w2.setCell ⟨O, 12, none⟩ Q') := by
  have k := KeptP.of_grown hg
  have hO := h.hO
  have r2 := k.blk h.r (fun e => rowNe h.e.q h.r (by decide) _ e rfl)
  have o2 := k.blk h.o (fun e => rowNe h.e.q h.o (by decide) _ e rfl)
  have m2 : RI w2 w.heap.size L t.links := k.owns h.e.l (fun q e e' => rowNe2 h.e.l h.e.q (by decide) q e e')
  have q2 : RI w2 w.heap.size D t.data := k.owns h.e.d (fun q e e' => rowNe2 h.e.d h.e.q (by decide) q e e')
  have d2 := h.d.own hg h.hW (fun q e => (h.e.q.lt q e).1)
  have e2 : TEOk w2 w.heap.size 200 false ⟨{ t with queue := ls' }, L, D, Q'⟩ := ⟨m2, q2, ho, ⟨h.e.s.l, h.e.s.d, hs, h.e.s.w, fun e => by cases e⟩⟩
  exact ⟨r2.other 12 Q' (by omega), o2.set 12 Q', e2.other o2 (by decide) (by decide), d2.set h.hW (by omega), h.hW, hO⟩
end
def OneDrawn (W : World) (cb : Nat) (w : World) (e : Ending) (w' : World) : Prop := ∃ (ob : Thing) (vl vd vq : Value), e = .returned (.agg #[.int .i64 ob.gen, .int .i64 ob.kind, .int .i64 ob.box, .int .i64 ob.res, .int .i64 ob.til, .int .i64 ob.pages, .int .i64 ob.wait, .int .i64 ob.got, .int .i64 ob.ran, .bool ob.mark, vl, vd, vq]) ∧ TEOk w' w.heap.size 200 false ⟨ob, vl, vd, vq⟩ ∧ Drew W cb w w'
set_option maxRecDepth 100000 in
set_option maxHeartbeats 4000000 in
theorem l8One_any {W w : World} {cb : Nat} (h : DE W cb w) : Calls Try.prog 31 #[.pointer (some ⟨cb, 0, none⟩)] w (OneDrawn W cb w) := by
  obtain ⟨i0, hi, hz0, hz1, hz2⟩ := info_parts Try.infoIntB
  obtain ⟨jm, hjm, hym0, hym1, hym2⟩ := info_parts Try.infoMsg
  have hW := h.lt.2
  have hcb := h.lt.1
  have HD0 := hideP ((Drew.refl h).below (below_a1 w (.cells #[.int .i64 0, .int .i64 0, .int .i64 0, .int .i64 0, .int .i64 0, .int .i64 0, .int .i64 0, .int .i64 0, .int .i64 0, .bool false, .slice none 0 0, .slice none 0 0, .slice none 0 0] 34)))
  have HR0 := hideP (Blk.new w #[.int .i64 0, .int .i64 0, .int .i64 0, .int .i64 0, .int .i64 0, .int .i64 0, .int .i64 0, .int .i64 0, .int .i64 0, .bool false, .slice none 0 0, .slice none 0 0, .slice none 0 0] 34)
  clear h
  go_enter Try.func31, Try.ntmps31
  go_upto_region 1 with fail
  obtain ⟨w0, hw0⟩ : ∃ z, z = w.alloc (.cells #[.int .i64 0, .int .i64 0, .int .i64 0, .int .i64 0, .int .i64 0, .int .i64 0, .int .i64 0, .int .i64 0, .int .i64 0, .bool false, .slice none 0 0, .slice none 0 0, .slice none 0 0] 34) := ⟨_, rfl⟩
  have hz0' : w0.heap.size = w.heap.size + 1 := by rw [hw0]; simp
  rw [← hw0] at HD0 HR0 ⊢
  have HZ0 := Lib.hid hz0'
  clear hw0 hz0'
  go_wp2_with fail
  refine (l8Any_any HD0.out.1).mono ?_
  rintro e w1 ⟨v, n, ts, rfl, ht, hn1, _, hd⟩
  have HT := hideP ht
  have HR := hideP (hd.blk HR0.out hW)
  have HD := hideP (HD0.out.trans hd)
  clear ht hd HR0 HD0
  obtain ⟨pv, cv, rfl, _⟩ := owns_slice HT.out.row
  by_cases hn : n = 0
  · have dn : ((n : Int) == 0) = true := by simp [hn]
    have HX : Hid (TEOk w1 w.heap.size 200 false ⟨noThing 0, .slice none 0 0, .slice none 0 0, .slice none 0 0⟩) := hideP (zTE_ok _ _ _ _ 0)
    clear hn HT
    have r0 : w1.cell? ⟨w.heap.size, 0, none⟩ = some (.int .i64 0) := (HR.out.cell 0).trans rfl
    have fr0 : w1.frozen? ⟨w.heap.size, 0, none⟩ = false := HR.out.frozen 0
    have r1 : w1.cell? ⟨w.heap.size, 1, none⟩ = some (.int .i64 0) := (HR.out.cell 1).trans rfl
    have fr1 : w1.frozen? ⟨w.heap.size, 1, none⟩ = false := HR.out.frozen 1
    have r2 : w1.cell? ⟨w.heap.size, 2, none⟩ = some (.int .i64 0) := (HR.out.cell 2).trans rfl
    have fr2 : w1.frozen? ⟨w.heap.size, 2, none⟩ = false := HR.out.frozen 2
    have r3 : w1.cell? ⟨w.heap.size, 3, none⟩ = some (.int .i64 0) := (HR.out.cell 3).trans rfl
    have fr3 : w1.frozen? ⟨w.heap.size, 3, none⟩ = false := HR.out.frozen 3
    have r4 : w1.cell? ⟨w.heap.size, 4, none⟩ = some (.int .i64 0) := (HR.out.cell 4).trans rfl
    have fr4 : w1.frozen? ⟨w.heap.size, 4, none⟩ = false := HR.out.frozen 4
    have r5 : w1.cell? ⟨w.heap.size, 5, none⟩ = some (.int .i64 0) := (HR.out.cell 5).trans rfl
    have fr5 : w1.frozen? ⟨w.heap.size, 5, none⟩ = false := HR.out.frozen 5
    have r6 : w1.cell? ⟨w.heap.size, 6, none⟩ = some (.int .i64 0) := (HR.out.cell 6).trans rfl
    have fr6 : w1.frozen? ⟨w.heap.size, 6, none⟩ = false := HR.out.frozen 6
    have r7 : w1.cell? ⟨w.heap.size, 7, none⟩ = some (.int .i64 0) := (HR.out.cell 7).trans rfl
    have fr7 : w1.frozen? ⟨w.heap.size, 7, none⟩ = false := HR.out.frozen 7
    have r8 : w1.cell? ⟨w.heap.size, 8, none⟩ = some (.int .i64 0) := (HR.out.cell 8).trans rfl
    have fr8 : w1.frozen? ⟨w.heap.size, 8, none⟩ = false := HR.out.frozen 8
    have r9 : w1.cell? ⟨w.heap.size, 9, none⟩ = some (.bool false) := (HR.out.cell 9).trans rfl
    have fr9 : w1.frozen? ⟨w.heap.size, 9, none⟩ = false := HR.out.frozen 9
    have r10 : w1.cell? ⟨w.heap.size, 10, none⟩ = some (.slice none 0 0) := (HR.out.cell 10).trans rfl
    have fr10 : w1.frozen? ⟨w.heap.size, 10, none⟩ = false := HR.out.frozen 10
    have r11 : w1.cell? ⟨w.heap.size, 11, none⟩ = some (.slice none 0 0) := (HR.out.cell 11).trans rfl
    have fr11 : w1.frozen? ⟨w.heap.size, 11, none⟩ = false := HR.out.frozen 11
    have r12 : w1.cell? ⟨w.heap.size, 12, none⟩ = some (.slice none 0 0) := (HR.out.cell 12).trans rfl
    have fr12 : w1.frozen? ⟨w.heap.size, 12, none⟩ = false := HR.out.frozen 12
    have K9 := keptSets w1 w.heap.size 0 (TE.enc ⟨noThing 0, .slice none 0 0, .slice none 0 0, .slice none 0 0⟩)
    have HE9 := hideP (HX.out.kept K9 (riNe HR.out (by decide)) (rmNe HR.out (by decide)))
    have HD9 := hideP (HD.out.own (r := some w.heap.size) (grown_setCells (TE.enc ⟨noThing 0, .slice none 0 0, .slice none 0 0, .slice none 0 0⟩) 0 (World.grownBy.refl w1 _)) hW (fun k e => by cases e; exact Nat.le_refl _))
    clear K9 HX HR HD
    go_wp2
    refine bodyPost_ret (v := .agg #[.int .i64 0, .int .i64 0, .int .i64 0, .int .i64 0, .int .i64 0, .int .i64 0, .int .i64 0, .int .i64 0, .int .i64 0, .bool false, .slice none 0 0, .slice none 0 0, .slice none 0 0]) (by simp [results, Try.results31, go_sem, r0, r1, r2, r3, r4, r5, r6, r7, r8, r9, r10, r11, r12]) rfl ⟨noThing 0, .slice none 0 0, .slice none 0 0, .slice none 0 0, rfl, ?_, ?_⟩
    · exact HE9.out
    · exact HD9.out
  · have dn : ((n : Int) == 0) = false := by simp; omega
    obtain ⟨g, cv', cs, e, hgB, _, _⟩ := HT.out.block (by omega)
    cases e
    go_wp2_with fail
    refine (de_below n (by omega) (by omega) HD.out.1).mono ?_
    rintro e w2 ⟨kk, rfl, kk0, kk1, hd⟩
    obtain ⟨k, rfl⟩ := Int.eq_ofNat_of_zero_le kk0
    have HT := hideP (HT.out.drew hd (by have := HZ0.out; omega))
    have HR := hideP (hd.blk HR.out hW)
    have HD := hideP (HD.out.trans hd)
    have hkn : k < n := by omega
    have k0 : (0 : Int) ≤ (k : Int) := by omega
    have k1 : (k : Int) < (n : Int) := by omega
    obtain ⟨⟨t, ul, ud, uq⟩, hy⟩ := some_at (l := ts) (k := k) (by have := HT.out.len; omega)
    have HE : Hid (TEOk w2 w.heap.size 101 false ⟨t, ul, ud, uq⟩) := hideP ((HT.out.el _ (List.mem_of_getElem? hy)).mono (by have := HZ0.out; omega) (Nat.le_refl _) (fun e => e))
    have HAP : Hid (∀ q, ul.ownBlock = some q → ud.ownBlock ≠ some q) := hideP (fun q hq => (HT.out.ap k k _ _ hy hy q hq).2)
    obtain ⟨c0, fc0⟩ := HT.out.cell hy (j := 0) rfl
    obtain ⟨c1, fc1⟩ := HT.out.cell hy (j := 1) rfl
    obtain ⟨c2, fc2⟩ := HT.out.cell hy (j := 2) rfl
    obtain ⟨c3, fc3⟩ := HT.out.cell hy (j := 3) rfl
    obtain ⟨c4, fc4⟩ := HT.out.cell hy (j := 4) rfl
    obtain ⟨c5, fc5⟩ := HT.out.cell hy (j := 5) rfl
    obtain ⟨c6, fc6⟩ := HT.out.cell hy (j := 6) rfl
    obtain ⟨c7, fc7⟩ := HT.out.cell hy (j := 7) rfl
    obtain ⟨c8, fc8⟩ := HT.out.cell hy (j := 8) rfl
    obtain ⟨c9, fc9⟩ := HT.out.cell hy (j := 9) rfl
    obtain ⟨c10, fc10⟩ := HT.out.cell hy (j := 10) rfl
    obtain ⟨c11, fc11⟩ := HT.out.cell hy (j := 11) rfl
    obtain ⟨c12, fc12⟩ := HT.out.cell hy (j := 12) rfl
    simp only [Nat.add_zero] at c0 fc0
    dsimp only at c0 c1 c2 c3 c4 c5 c6 c7 c8 c9 c10 c11 c12
    have hEl : RI w2 w.heap.size ul t.links := HE.out.l
    have hEd : RI w2 w.heap.size ud t.data := HE.out.d
    have hEq : RM w2 w.heap.size uq t.queue := HE.out.q
    obtain ⟨pl, ql, rfl, _⟩ := owns_slice hEl
    obtain ⟨pd, qd, rfl, _⟩ := owns_slice hEd
    obtain ⟨pq, qq, rfl, _⟩ := owns_slice hEq
    clear hEl hEd hEq
    clear hd hy kk0 kk1 HT
    go_upto_region 5 with fail
    clear c0 c1 c2 c3 c4 c5 c6 c7 c8 c9 c10 c11 c12 fc0 fc1 fc2 fc3 fc4 fc5 fc6 fc7 fc8 fc9 fc10 fc11 fc12
    obtain ⟨w3, hw3⟩ : ∃ z, z = w2.alloc (.cells #[.int .i64 t.gen, .int .i64 t.kind, .int .i64 t.box, .int .i64 t.res, .int .i64 t.til, .int .i64 t.pages, .int .i64 t.wait, .int .i64 t.got, .int .i64 t.ran, .bool t.mark, .slice pl t.links.length ql, .slice pd t.data.length qd, .slice pq t.queue.length qq] 34) := ⟨_, rfl⟩
    have HS : Hid (OS W cb w w2.heap.size ⟨t, .slice pl t.links.length ql, .slice pd t.data.length qd, .slice pq t.queue.length qq⟩ w3) := hideP (by
      rw [hw3]
      exact ⟨HR.out.alloc _, Blk.new w2 _ _, (HE.out.mono (Nat.le_refl _) (by decide) (fun e => e)).below (below_a1 w2 _), HD.out.alloc _, hW, HR.out.lt⟩)
    have HSM : Hid (Sm 101 false t) := hideP HE.out.s
    rw [← hw3]
    obtain ⟨O, hO⟩ : ∃ O, O = w2.heap.size := ⟨_, rfl⟩
    rw [← hO] at HS ⊢
    clear hw3 hO HR HE HD
    go_wp2_with fail
    refine (de_below 12 (by omega) (by omega) HS.out.d.1).mono ?_
    rintro e w4 ⟨y, rfl, y0, y1, hd⟩
    have HS := hideP (HS.out.drew hd)
    clear hd
    obtain rfl | rfl | rfl | hy : y = 0 ∨ y = 1 ∨ y = 2 ∨ 3 ≤ y := by omega
    · have b11 : w4.cell? ⟨O, 11, none⟩ = some (.slice pd t.data.length qd) := (HS.out.o.cell 11).trans rfl
      have e11 := cell_alloc_keepB b11 (.cells #[.int .i64 1000] 3)
      have hSd := HSM.out.d
      have hzz := HS.out.d.2.size
      go_wp2_with (at_builtin; refine wpList_append_rd _ rfl _ _ 31 rfl w.heap.size 3 i0 (.int .i64 0) 1 8 Try.underlying31 hi hz0 hz1 hz2 rfl (by decide) _ t.data.length _ rfl (World.ownsRow.alloc HS.out.e.d _) _ 1 1 [.int .i64 1000] rfl rfl (rd_litg (by rfl) rfl) ?c1 ?c2 ?c3 ?c4 ?_)
      case c1 => simp [Value.oneCell']
      case c2 => unfold maxLen; omega
      case c3 => omega
      case c4 => simp; omega
      intro v9 w9 ho9 hg9
      obtain ⟨p9, q9, rfl, _⟩ := owns_slice ho9
      have HSA := hideP (HS.out.below (below_a1 w4 (.cells #[.int .i64 1000] 3)))
      have X9 := (KeptP.of_grown hg9).blk HSA.out.o (fun e => rowNe HSA.out.e.d HSA.out.o (by decide) _ e rfl)
      have x11 : w9.cell? ⟨O, 11, none⟩ = some (.slice pd t.data.length qd) := (X9.cell 11).trans rfl
      have fx11 : w9.frozen? ⟨O, 11, none⟩ = false := X9.frozen 11
      have hl9 : (t.data ++ [(1000 : Int)]).length = t.data.length + 1 := by simp
      have R9 : RI w9 w.heap.size (.slice p9 (t.data.length + 1) q9) (t.data ++ [(1000 : Int)]) := by unfold RI; rw [hl9, show icell (t.data ++ [(1000 : Int)]) = icell t.data ++ [.int .i64 1000] by simp [icell]]; exact ho9
      have HS9 := hideP (OS.data HSA.out hg9 HAP.out R9 (by omega))
      clear ho9 hg9 HSA X9 R9 b11 e11 HS
      go_upto_region 12 with fail
      obtain ⟨wn, hwn⟩ : ∃ z, z = w9.setCell ⟨O, 11, none⟩ (.slice p9 (t.data.length + 1) q9) := ⟨_, rfl⟩
      obtain ⟨t5, ht5⟩ : ∃ z : Thing, z = { t with data := t.data ++ [(1000 : Int)] } := ⟨_, rfl⟩
      rw [← hwn, ← ht5] at HS9
      rw [← hwn]
      clear hwn x11 fx11 ht5 HSM HAP
      have b0 : wn.cell? ⟨O, 0, none⟩ = some (.int .i64 t5.gen) := (HS9.out.o.cell 0).trans rfl
      have b1 : wn.cell? ⟨O, 1, none⟩ = some (.int .i64 t5.kind) := (HS9.out.o.cell 1).trans rfl
      have b2 : wn.cell? ⟨O, 2, none⟩ = some (.int .i64 t5.box) := (HS9.out.o.cell 2).trans rfl
      have b3 : wn.cell? ⟨O, 3, none⟩ = some (.int .i64 t5.res) := (HS9.out.o.cell 3).trans rfl
      have b4 : wn.cell? ⟨O, 4, none⟩ = some (.int .i64 t5.til) := (HS9.out.o.cell 4).trans rfl
      have b5 : wn.cell? ⟨O, 5, none⟩ = some (.int .i64 t5.pages) := (HS9.out.o.cell 5).trans rfl
      have b6 : wn.cell? ⟨O, 6, none⟩ = some (.int .i64 t5.wait) := (HS9.out.o.cell 6).trans rfl
      have b7 : wn.cell? ⟨O, 7, none⟩ = some (.int .i64 t5.got) := (HS9.out.o.cell 7).trans rfl
      have b8 : wn.cell? ⟨O, 8, none⟩ = some (.int .i64 t5.ran) := (HS9.out.o.cell 8).trans rfl
      have b9 : wn.cell? ⟨O, 9, none⟩ = some (.bool t5.mark) := (HS9.out.o.cell 9).trans rfl
      have b10 : wn.cell? ⟨O, 10, none⟩ = some (.slice pl t.links.length ql) := (HS9.out.o.cell 10).trans rfl
      have b11 : wn.cell? ⟨O, 11, none⟩ = some (.slice p9 (t.data.length + 1) q9) := (HS9.out.o.cell 11).trans rfl
      have b12 : wn.cell? ⟨O, 12, none⟩ = some (.slice pq t.queue.length qq) := (HS9.out.o.cell 12).trans rfl
      have r0 : wn.cell? ⟨w.heap.size, 0, none⟩ = some (.int .i64 0) := (HS9.out.r.cell 0).trans rfl
      have fr0 : wn.frozen? ⟨w.heap.size, 0, none⟩ = false := HS9.out.r.frozen 0
      have r1 : wn.cell? ⟨w.heap.size, 1, none⟩ = some (.int .i64 0) := (HS9.out.r.cell 1).trans rfl
      have fr1 : wn.frozen? ⟨w.heap.size, 1, none⟩ = false := HS9.out.r.frozen 1
      have r2 : wn.cell? ⟨w.heap.size, 2, none⟩ = some (.int .i64 0) := (HS9.out.r.cell 2).trans rfl
      have fr2 : wn.frozen? ⟨w.heap.size, 2, none⟩ = false := HS9.out.r.frozen 2
      have r3 : wn.cell? ⟨w.heap.size, 3, none⟩ = some (.int .i64 0) := (HS9.out.r.cell 3).trans rfl
      have fr3 : wn.frozen? ⟨w.heap.size, 3, none⟩ = false := HS9.out.r.frozen 3
      have r4 : wn.cell? ⟨w.heap.size, 4, none⟩ = some (.int .i64 0) := (HS9.out.r.cell 4).trans rfl
      have fr4 : wn.frozen? ⟨w.heap.size, 4, none⟩ = false := HS9.out.r.frozen 4
      have r5 : wn.cell? ⟨w.heap.size, 5, none⟩ = some (.int .i64 0) := (HS9.out.r.cell 5).trans rfl
      have fr5 : wn.frozen? ⟨w.heap.size, 5, none⟩ = false := HS9.out.r.frozen 5
      have r6 : wn.cell? ⟨w.heap.size, 6, none⟩ = some (.int .i64 0) := (HS9.out.r.cell 6).trans rfl
      have fr6 : wn.frozen? ⟨w.heap.size, 6, none⟩ = false := HS9.out.r.frozen 6
      have r7 : wn.cell? ⟨w.heap.size, 7, none⟩ = some (.int .i64 0) := (HS9.out.r.cell 7).trans rfl
      have fr7 : wn.frozen? ⟨w.heap.size, 7, none⟩ = false := HS9.out.r.frozen 7
      have r8 : wn.cell? ⟨w.heap.size, 8, none⟩ = some (.int .i64 0) := (HS9.out.r.cell 8).trans rfl
      have fr8 : wn.frozen? ⟨w.heap.size, 8, none⟩ = false := HS9.out.r.frozen 8
      have r9 : wn.cell? ⟨w.heap.size, 9, none⟩ = some (.bool false) := (HS9.out.r.cell 9).trans rfl
      have fr9 : wn.frozen? ⟨w.heap.size, 9, none⟩ = false := HS9.out.r.frozen 9
      have r10 : wn.cell? ⟨w.heap.size, 10, none⟩ = some (.slice none 0 0) := (HS9.out.r.cell 10).trans rfl
      have fr10 : wn.frozen? ⟨w.heap.size, 10, none⟩ = false := HS9.out.r.frozen 10
      have r11 : wn.cell? ⟨w.heap.size, 11, none⟩ = some (.slice none 0 0) := (HS9.out.r.cell 11).trans rfl
      have fr11 : wn.frozen? ⟨w.heap.size, 11, none⟩ = false := HS9.out.r.frozen 11
      have r12 : wn.cell? ⟨w.heap.size, 12, none⟩ = some (.slice none 0 0) := (HS9.out.r.cell 12).trans rfl
      have fr12 : wn.frozen? ⟨w.heap.size, 12, none⟩ = false := HS9.out.r.frozen 12
      have K9 := keptSets wn w.heap.size 0 (TE.enc ⟨t5, .slice pl t.links.length ql, .slice p9 (t.data.length + 1) q9, .slice pq t.queue.length qq⟩)
      have HE9 := hideP (HS9.out.e.kept K9 (riNe HS9.out.r (by decide)) (rmNe HS9.out.r (by decide)))
      have HD9 := hideP (HS9.out.d.own (r := some w.heap.size) (grown_setCells (TE.enc ⟨t5, .slice pl t.links.length ql, .slice p9 (t.data.length + 1) q9, .slice pq t.queue.length qq⟩) 0 (World.grownBy.refl wn _)) hW (fun k e => by cases e; exact Nat.le_refl _))
      clear K9 HS9
      go_wp2
      refine bodyPost_ret (v := .agg #[.int .i64 t5.gen, .int .i64 t5.kind, .int .i64 t5.box, .int .i64 t5.res, .int .i64 t5.til, .int .i64 t5.pages, .int .i64 t5.wait, .int .i64 t5.got, .int .i64 t5.ran, .bool t5.mark, .slice pl t.links.length ql, .slice p9 (t.data.length + 1) q9, .slice pq t.queue.length qq]) (by simp [results, Try.results31, go_sem, r0, r1, r2, r3, r4, r5, r6, r7, r8, r9, r10, r11, r12]) rfl ⟨t5, .slice pl t.links.length ql, .slice p9 (t.data.length + 1) q9, .slice pq t.queue.length qq, rfl, ?_, ?_⟩
      · exact HE9.out
      · exact HD9.out

    · have b12 : w4.cell? ⟨O, 12, none⟩ = some (.slice pq t.queue.length qq) := (HS.out.o.cell 12).trans rfl
      have e12 := cell_alloc_keepB b12 (.cells #[.int .i64 (-2), .int .i64 0] 67)
      have hSq := HSM.out.q
      have hzz := HS.out.d.2.size
      go_wp2_with (at_builtin; refine wpList_append_rd _ rfl _ _ 32 rfl w.heap.size 67 jm (.agg #[.int .i64 0, .int .i64 0]) 2 16 Try.underlying32 hjm hym0 hym1 hym2 rfl (by decide) _ t.queue.length _ rfl (World.ownsRow.alloc HS.out.e.q _) _ 1 1 (Msg.enc ⟨-2, 0⟩) rfl rfl (rd_litg (by rfl) rfl) ?ca ?cb ?cc ?cd ?_)
      case ca => simp [Value.oneCell', Msg.enc]
      case cb => unfold maxLen; omega
      case cc => omega
      case cd => simp; omega
      intro v9 w9 ho9 hg9
      obtain ⟨p9, q9, rfl, _⟩ := owns_slice ho9
      have HSA := hideP (HS.out.below (below_a1 w4 (.cells #[.int .i64 (-2), .int .i64 0] 67)))
      have X9 := (KeptP.of_grown hg9).blk HSA.out.o (fun e => rowNe HSA.out.e.q HSA.out.o (by decide) _ e rfl)
      have x12 : w9.cell? ⟨O, 12, none⟩ = some (.slice pq t.queue.length qq) := (X9.cell 12).trans rfl
      have fx12 : w9.frozen? ⟨O, 12, none⟩ = false := X9.frozen 12
      have hl9 : (t.queue ++ [(⟨-2, 0⟩ : Msg)]).length = t.queue.length + 1 := by simp
      have R9 : RM w9 w.heap.size (.slice p9 (t.queue.length + 1) q9) (t.queue ++ [(⟨-2, 0⟩ : Msg)]) := by unfold RM; rw [hl9, show (t.queue ++ [(⟨-2, 0⟩ : Msg)]).flatMap Msg.enc = t.queue.flatMap Msg.enc ++ Msg.enc ⟨-2, 0⟩ by simp]; exact ho9
      have HS9 := hideP (OS.queue HSA.out hg9 R9 (by omega))
      clear ho9 hg9 HSA X9 R9 b12 e12 HS
      go_upto_region 12 with fail
      obtain ⟨wn, hwn⟩ : ∃ z, z = w9.setCell ⟨O, 12, none⟩ (.slice p9 (t.queue.length + 1) q9) := ⟨_, rfl⟩
      obtain ⟨t5, ht5⟩ : ∃ z : Thing, z = { t with queue := t.queue ++ [(⟨-2, 0⟩ : Msg)] } := ⟨_, rfl⟩
      rw [← hwn, ← ht5] at HS9
      rw [← hwn]
      clear hwn x12 fx12 ht5 HSM HAP
      have b0 : wn.cell? ⟨O, 0, none⟩ = some (.int .i64 t5.gen) := (HS9.out.o.cell 0).trans rfl
      have b1 : wn.cell? ⟨O, 1, none⟩ = some (.int .i64 t5.kind) := (HS9.out.o.cell 1).trans rfl
      have b2 : wn.cell? ⟨O, 2, none⟩ = some (.int .i64 t5.box) := (HS9.out.o.cell 2).trans rfl
      have b3 : wn.cell? ⟨O, 3, none⟩ = some (.int .i64 t5.res) := (HS9.out.o.cell 3).trans rfl
      have b4 : wn.cell? ⟨O, 4, none⟩ = some (.int .i64 t5.til) := (HS9.out.o.cell 4).trans rfl
      have b5 : wn.cell? ⟨O, 5, none⟩ = some (.int .i64 t5.pages) := (HS9.out.o.cell 5).trans rfl
      have b6 : wn.cell? ⟨O, 6, none⟩ = some (.int .i64 t5.wait) := (HS9.out.o.cell 6).trans rfl
      have b7 : wn.cell? ⟨O, 7, none⟩ = some (.int .i64 t5.got) := (HS9.out.o.cell 7).trans rfl
      have b8 : wn.cell? ⟨O, 8, none⟩ = some (.int .i64 t5.ran) := (HS9.out.o.cell 8).trans rfl
      have b9 : wn.cell? ⟨O, 9, none⟩ = some (.bool t5.mark) := (HS9.out.o.cell 9).trans rfl
      have b10 : wn.cell? ⟨O, 10, none⟩ = some (.slice pl t.links.length ql) := (HS9.out.o.cell 10).trans rfl
      have b11 : wn.cell? ⟨O, 11, none⟩ = some (.slice pd t.data.length qd) := (HS9.out.o.cell 11).trans rfl
      have b12 : wn.cell? ⟨O, 12, none⟩ = some (.slice p9 (t.queue.length + 1) q9) := (HS9.out.o.cell 12).trans rfl
      have r0 : wn.cell? ⟨w.heap.size, 0, none⟩ = some (.int .i64 0) := (HS9.out.r.cell 0).trans rfl
      have fr0 : wn.frozen? ⟨w.heap.size, 0, none⟩ = false := HS9.out.r.frozen 0
      have r1 : wn.cell? ⟨w.heap.size, 1, none⟩ = some (.int .i64 0) := (HS9.out.r.cell 1).trans rfl
      have fr1 : wn.frozen? ⟨w.heap.size, 1, none⟩ = false := HS9.out.r.frozen 1
      have r2 : wn.cell? ⟨w.heap.size, 2, none⟩ = some (.int .i64 0) := (HS9.out.r.cell 2).trans rfl
      have fr2 : wn.frozen? ⟨w.heap.size, 2, none⟩ = false := HS9.out.r.frozen 2
      have r3 : wn.cell? ⟨w.heap.size, 3, none⟩ = some (.int .i64 0) := (HS9.out.r.cell 3).trans rfl
      have fr3 : wn.frozen? ⟨w.heap.size, 3, none⟩ = false := HS9.out.r.frozen 3
      have r4 : wn.cell? ⟨w.heap.size, 4, none⟩ = some (.int .i64 0) := (HS9.out.r.cell 4).trans rfl
      have fr4 : wn.frozen? ⟨w.heap.size, 4, none⟩ = false := HS9.out.r.frozen 4
      have r5 : wn.cell? ⟨w.heap.size, 5, none⟩ = some (.int .i64 0) := (HS9.out.r.cell 5).trans rfl
      have fr5 : wn.frozen? ⟨w.heap.size, 5, none⟩ = false := HS9.out.r.frozen 5
      have r6 : wn.cell? ⟨w.heap.size, 6, none⟩ = some (.int .i64 0) := (HS9.out.r.cell 6).trans rfl
      have fr6 : wn.frozen? ⟨w.heap.size, 6, none⟩ = false := HS9.out.r.frozen 6
      have r7 : wn.cell? ⟨w.heap.size, 7, none⟩ = some (.int .i64 0) := (HS9.out.r.cell 7).trans rfl
      have fr7 : wn.frozen? ⟨w.heap.size, 7, none⟩ = false := HS9.out.r.frozen 7
      have r8 : wn.cell? ⟨w.heap.size, 8, none⟩ = some (.int .i64 0) := (HS9.out.r.cell 8).trans rfl
      have fr8 : wn.frozen? ⟨w.heap.size, 8, none⟩ = false := HS9.out.r.frozen 8
      have r9 : wn.cell? ⟨w.heap.size, 9, none⟩ = some (.bool false) := (HS9.out.r.cell 9).trans rfl
      have fr9 : wn.frozen? ⟨w.heap.size, 9, none⟩ = false := HS9.out.r.frozen 9
      have r10 : wn.cell? ⟨w.heap.size, 10, none⟩ = some (.slice none 0 0) := (HS9.out.r.cell 10).trans rfl
      have fr10 : wn.frozen? ⟨w.heap.size, 10, none⟩ = false := HS9.out.r.frozen 10
      have r11 : wn.cell? ⟨w.heap.size, 11, none⟩ = some (.slice none 0 0) := (HS9.out.r.cell 11).trans rfl
      have fr11 : wn.frozen? ⟨w.heap.size, 11, none⟩ = false := HS9.out.r.frozen 11
      have r12 : wn.cell? ⟨w.heap.size, 12, none⟩ = some (.slice none 0 0) := (HS9.out.r.cell 12).trans rfl
      have fr12 : wn.frozen? ⟨w.heap.size, 12, none⟩ = false := HS9.out.r.frozen 12
      have K9 := keptSets wn w.heap.size 0 (TE.enc ⟨t5, .slice pl t.links.length ql, .slice pd t.data.length qd, .slice p9 (t.queue.length + 1) q9⟩)
      have HE9 := hideP (HS9.out.e.kept K9 (riNe HS9.out.r (by decide)) (rmNe HS9.out.r (by decide)))
      have HD9 := hideP (HS9.out.d.own (r := some w.heap.size) (grown_setCells (TE.enc ⟨t5, .slice pl t.links.length ql, .slice pd t.data.length qd, .slice p9 (t.queue.length + 1) q9⟩) 0 (World.grownBy.refl wn _)) hW (fun k e => by cases e; exact Nat.le_refl _))
      clear K9 HS9
      go_wp2
      refine bodyPost_ret (v := .agg #[.int .i64 t5.gen, .int .i64 t5.kind, .int .i64 t5.box, .int .i64 t5.res, .int .i64 t5.til, .int .i64 t5.pages, .int .i64 t5.wait, .int .i64 t5.got, .int .i64 t5.ran, .bool t5.mark, .slice pl t.links.length ql, .slice pd t.data.length qd, .slice p9 (t.queue.length + 1) q9]) (by simp [results, Try.results31, go_sem, r0, r1, r2, r3, r4, r5, r6, r7, r8, r9, r10, r11, r12]) rfl ⟨t5, .slice pl t.links.length ql, .slice pd t.data.length qd, .slice p9 (t.queue.length + 1) q9, rfl, ?_, ?_⟩
      · exact HE9.out
      · exact HD9.out

    · have b5 : w4.cell? ⟨O, 5, none⟩ = some (.int .i64 t.pages) := (HS.out.o.cell 5).trans rfl
      have fb5 : w4.frozen? ⟨O, 5, none⟩ = false := HS.out.o.frozen 5
      have HS9 := hideP (HS.out.field (j := 5) (u := .int .i64 (wrap64 (t.pages + 1))) (x' := ⟨{ t with pages := wrap64 (t.pages + 1) }, .slice pl t.links.length ql, .slice pd t.data.length qd, .slice pq t.queue.length qq⟩) rfl ⟨HS.out.e.l, HS.out.e.d, HS.out.e.q, ⟨HS.out.e.s.l, HS.out.e.s.d, HS.out.e.s.q, HS.out.e.s.w, HS.out.e.s.k⟩⟩)
      clear HS
      go_upto_region 12 with fail
      obtain ⟨wn, hwn⟩ : ∃ z, z = w4.setCell ⟨O, 5, none⟩ (.int .i64 (wrap64 (t.pages + 1))) := ⟨_, rfl⟩
      obtain ⟨t5, ht5⟩ : ∃ z : Thing, z = { t with pages := wrap64 (t.pages + 1) } := ⟨_, rfl⟩
      rw [← hwn, ← ht5] at HS9
      rw [← hwn]
      clear hwn b5 fb5 ht5 HSM HAP
      have b0 : wn.cell? ⟨O, 0, none⟩ = some (.int .i64 t5.gen) := (HS9.out.o.cell 0).trans rfl
      have b1 : wn.cell? ⟨O, 1, none⟩ = some (.int .i64 t5.kind) := (HS9.out.o.cell 1).trans rfl
      have b2 : wn.cell? ⟨O, 2, none⟩ = some (.int .i64 t5.box) := (HS9.out.o.cell 2).trans rfl
      have b3 : wn.cell? ⟨O, 3, none⟩ = some (.int .i64 t5.res) := (HS9.out.o.cell 3).trans rfl
      have b4 : wn.cell? ⟨O, 4, none⟩ = some (.int .i64 t5.til) := (HS9.out.o.cell 4).trans rfl
      have b5 : wn.cell? ⟨O, 5, none⟩ = some (.int .i64 t5.pages) := (HS9.out.o.cell 5).trans rfl
      have b6 : wn.cell? ⟨O, 6, none⟩ = some (.int .i64 t5.wait) := (HS9.out.o.cell 6).trans rfl
      have b7 : wn.cell? ⟨O, 7, none⟩ = some (.int .i64 t5.got) := (HS9.out.o.cell 7).trans rfl
      have b8 : wn.cell? ⟨O, 8, none⟩ = some (.int .i64 t5.ran) := (HS9.out.o.cell 8).trans rfl
      have b9 : wn.cell? ⟨O, 9, none⟩ = some (.bool t5.mark) := (HS9.out.o.cell 9).trans rfl
      have b10 : wn.cell? ⟨O, 10, none⟩ = some (.slice pl t.links.length ql) := (HS9.out.o.cell 10).trans rfl
      have b11 : wn.cell? ⟨O, 11, none⟩ = some (.slice pd t.data.length qd) := (HS9.out.o.cell 11).trans rfl
      have b12 : wn.cell? ⟨O, 12, none⟩ = some (.slice pq t.queue.length qq) := (HS9.out.o.cell 12).trans rfl
      have r0 : wn.cell? ⟨w.heap.size, 0, none⟩ = some (.int .i64 0) := (HS9.out.r.cell 0).trans rfl
      have fr0 : wn.frozen? ⟨w.heap.size, 0, none⟩ = false := HS9.out.r.frozen 0
      have r1 : wn.cell? ⟨w.heap.size, 1, none⟩ = some (.int .i64 0) := (HS9.out.r.cell 1).trans rfl
      have fr1 : wn.frozen? ⟨w.heap.size, 1, none⟩ = false := HS9.out.r.frozen 1
      have r2 : wn.cell? ⟨w.heap.size, 2, none⟩ = some (.int .i64 0) := (HS9.out.r.cell 2).trans rfl
      have fr2 : wn.frozen? ⟨w.heap.size, 2, none⟩ = false := HS9.out.r.frozen 2
      have r3 : wn.cell? ⟨w.heap.size, 3, none⟩ = some (.int .i64 0) := (HS9.out.r.cell 3).trans rfl
      have fr3 : wn.frozen? ⟨w.heap.size, 3, none⟩ = false := HS9.out.r.frozen 3
      have r4 : wn.cell? ⟨w.heap.size, 4, none⟩ = some (.int .i64 0) := (HS9.out.r.cell 4).trans rfl
      have fr4 : wn.frozen? ⟨w.heap.size, 4, none⟩ = false := HS9.out.r.frozen 4
      have r5 : wn.cell? ⟨w.heap.size, 5, none⟩ = some (.int .i64 0) := (HS9.out.r.cell 5).trans rfl
      have fr5 : wn.frozen? ⟨w.heap.size, 5, none⟩ = false := HS9.out.r.frozen 5
      have r6 : wn.cell? ⟨w.heap.size, 6, none⟩ = some (.int .i64 0) := (HS9.out.r.cell 6).trans rfl
      have fr6 : wn.frozen? ⟨w.heap.size, 6, none⟩ = false := HS9.out.r.frozen 6
      have r7 : wn.cell? ⟨w.heap.size, 7, none⟩ = some (.int .i64 0) := (HS9.out.r.cell 7).trans rfl
      have fr7 : wn.frozen? ⟨w.heap.size, 7, none⟩ = false := HS9.out.r.frozen 7
      have r8 : wn.cell? ⟨w.heap.size, 8, none⟩ = some (.int .i64 0) := (HS9.out.r.cell 8).trans rfl
      have fr8 : wn.frozen? ⟨w.heap.size, 8, none⟩ = false := HS9.out.r.frozen 8
      have r9 : wn.cell? ⟨w.heap.size, 9, none⟩ = some (.bool false) := (HS9.out.r.cell 9).trans rfl
      have fr9 : wn.frozen? ⟨w.heap.size, 9, none⟩ = false := HS9.out.r.frozen 9
      have r10 : wn.cell? ⟨w.heap.size, 10, none⟩ = some (.slice none 0 0) := (HS9.out.r.cell 10).trans rfl
      have fr10 : wn.frozen? ⟨w.heap.size, 10, none⟩ = false := HS9.out.r.frozen 10
      have r11 : wn.cell? ⟨w.heap.size, 11, none⟩ = some (.slice none 0 0) := (HS9.out.r.cell 11).trans rfl
      have fr11 : wn.frozen? ⟨w.heap.size, 11, none⟩ = false := HS9.out.r.frozen 11
      have r12 : wn.cell? ⟨w.heap.size, 12, none⟩ = some (.slice none 0 0) := (HS9.out.r.cell 12).trans rfl
      have fr12 : wn.frozen? ⟨w.heap.size, 12, none⟩ = false := HS9.out.r.frozen 12
      have K9 := keptSets wn w.heap.size 0 (TE.enc ⟨t5, .slice pl t.links.length ql, .slice pd t.data.length qd, .slice pq t.queue.length qq⟩)
      have HE9 := hideP (HS9.out.e.kept K9 (riNe HS9.out.r (by decide)) (rmNe HS9.out.r (by decide)))
      have HD9 := hideP (HS9.out.d.own (r := some w.heap.size) (grown_setCells (TE.enc ⟨t5, .slice pl t.links.length ql, .slice pd t.data.length qd, .slice pq t.queue.length qq⟩) 0 (World.grownBy.refl wn _)) hW (fun k e => by cases e; exact Nat.le_refl _))
      clear K9 HS9
      go_wp2
      refine bodyPost_ret (v := .agg #[.int .i64 t5.gen, .int .i64 t5.kind, .int .i64 t5.box, .int .i64 t5.res, .int .i64 t5.til, .int .i64 t5.pages, .int .i64 t5.wait, .int .i64 t5.got, .int .i64 t5.ran, .bool t5.mark, .slice pl t.links.length ql, .slice pd t.data.length qd, .slice pq t.queue.length qq]) (by simp [results, Try.results31, go_sem, r0, r1, r2, r3, r4, r5, r6, r7, r8, r9, r10, r11, r12]) rfl ⟨t5, .slice pl t.links.length ql, .slice pd t.data.length qd, .slice pq t.queue.length qq, rfl, ?_, ?_⟩
      · exact HE9.out
      · exact HD9.out

    · go_upto_region 12 with fail
      clear HSM HAP
      have b0 : w4.cell? ⟨O, 0, none⟩ = some (.int .i64 t.gen) := (HS.out.o.cell 0).trans rfl
      have b1 : w4.cell? ⟨O, 1, none⟩ = some (.int .i64 t.kind) := (HS.out.o.cell 1).trans rfl
      have b2 : w4.cell? ⟨O, 2, none⟩ = some (.int .i64 t.box) := (HS.out.o.cell 2).trans rfl
      have b3 : w4.cell? ⟨O, 3, none⟩ = some (.int .i64 t.res) := (HS.out.o.cell 3).trans rfl
      have b4 : w4.cell? ⟨O, 4, none⟩ = some (.int .i64 t.til) := (HS.out.o.cell 4).trans rfl
      have b5 : w4.cell? ⟨O, 5, none⟩ = some (.int .i64 t.pages) := (HS.out.o.cell 5).trans rfl
      have b6 : w4.cell? ⟨O, 6, none⟩ = some (.int .i64 t.wait) := (HS.out.o.cell 6).trans rfl
      have b7 : w4.cell? ⟨O, 7, none⟩ = some (.int .i64 t.got) := (HS.out.o.cell 7).trans rfl
      have b8 : w4.cell? ⟨O, 8, none⟩ = some (.int .i64 t.ran) := (HS.out.o.cell 8).trans rfl
      have b9 : w4.cell? ⟨O, 9, none⟩ = some (.bool t.mark) := (HS.out.o.cell 9).trans rfl
      have b10 : w4.cell? ⟨O, 10, none⟩ = some (.slice pl t.links.length ql) := (HS.out.o.cell 10).trans rfl
      have b11 : w4.cell? ⟨O, 11, none⟩ = some (.slice pd t.data.length qd) := (HS.out.o.cell 11).trans rfl
      have b12 : w4.cell? ⟨O, 12, none⟩ = some (.slice pq t.queue.length qq) := (HS.out.o.cell 12).trans rfl
      have r0 : w4.cell? ⟨w.heap.size, 0, none⟩ = some (.int .i64 0) := (HS.out.r.cell 0).trans rfl
      have fr0 : w4.frozen? ⟨w.heap.size, 0, none⟩ = false := HS.out.r.frozen 0
      have r1 : w4.cell? ⟨w.heap.size, 1, none⟩ = some (.int .i64 0) := (HS.out.r.cell 1).trans rfl
      have fr1 : w4.frozen? ⟨w.heap.size, 1, none⟩ = false := HS.out.r.frozen 1
      have r2 : w4.cell? ⟨w.heap.size, 2, none⟩ = some (.int .i64 0) := (HS.out.r.cell 2).trans rfl
      have fr2 : w4.frozen? ⟨w.heap.size, 2, none⟩ = false := HS.out.r.frozen 2
      have r3 : w4.cell? ⟨w.heap.size, 3, none⟩ = some (.int .i64 0) := (HS.out.r.cell 3).trans rfl
      have fr3 : w4.frozen? ⟨w.heap.size, 3, none⟩ = false := HS.out.r.frozen 3
      have r4 : w4.cell? ⟨w.heap.size, 4, none⟩ = some (.int .i64 0) := (HS.out.r.cell 4).trans rfl
      have fr4 : w4.frozen? ⟨w.heap.size, 4, none⟩ = false := HS.out.r.frozen 4
      have r5 : w4.cell? ⟨w.heap.size, 5, none⟩ = some (.int .i64 0) := (HS.out.r.cell 5).trans rfl
      have fr5 : w4.frozen? ⟨w.heap.size, 5, none⟩ = false := HS.out.r.frozen 5
      have r6 : w4.cell? ⟨w.heap.size, 6, none⟩ = some (.int .i64 0) := (HS.out.r.cell 6).trans rfl
      have fr6 : w4.frozen? ⟨w.heap.size, 6, none⟩ = false := HS.out.r.frozen 6
      have r7 : w4.cell? ⟨w.heap.size, 7, none⟩ = some (.int .i64 0) := (HS.out.r.cell 7).trans rfl
      have fr7 : w4.frozen? ⟨w.heap.size, 7, none⟩ = false := HS.out.r.frozen 7
      have r8 : w4.cell? ⟨w.heap.size, 8, none⟩ = some (.int .i64 0) := (HS.out.r.cell 8).trans rfl
      have fr8 : w4.frozen? ⟨w.heap.size, 8, none⟩ = false := HS.out.r.frozen 8
      have r9 : w4.cell? ⟨w.heap.size, 9, none⟩ = some (.bool false) := (HS.out.r.cell 9).trans rfl
      have fr9 : w4.frozen? ⟨w.heap.size, 9, none⟩ = false := HS.out.r.frozen 9
      have r10 : w4.cell? ⟨w.heap.size, 10, none⟩ = some (.slice none 0 0) := (HS.out.r.cell 10).trans rfl
      have fr10 : w4.frozen? ⟨w.heap.size, 10, none⟩ = false := HS.out.r.frozen 10
      have r11 : w4.cell? ⟨w.heap.size, 11, none⟩ = some (.slice none 0 0) := (HS.out.r.cell 11).trans rfl
      have fr11 : w4.frozen? ⟨w.heap.size, 11, none⟩ = false := HS.out.r.frozen 11
      have r12 : w4.cell? ⟨w.heap.size, 12, none⟩ = some (.slice none 0 0) := (HS.out.r.cell 12).trans rfl
      have fr12 : w4.frozen? ⟨w.heap.size, 12, none⟩ = false := HS.out.r.frozen 12
      have K9 := keptSets w4 w.heap.size 0 (TE.enc ⟨t, .slice pl t.links.length ql, .slice pd t.data.length qd, .slice pq t.queue.length qq⟩)
      have HE9 := hideP (HS.out.e.kept K9 (riNe HS.out.r (by decide)) (rmNe HS.out.r (by decide)))
      have HD9 := hideP (HS.out.d.own (r := some w.heap.size) (grown_setCells (TE.enc ⟨t, .slice pl t.links.length ql, .slice pd t.data.length qd, .slice pq t.queue.length qq⟩) 0 (World.grownBy.refl w4 _)) hW (fun k e => by cases e; exact Nat.le_refl _))
      clear K9 HS
      go_wp2
      refine bodyPost_ret (v := .agg #[.int .i64 t.gen, .int .i64 t.kind, .int .i64 t.box, .int .i64 t.res, .int .i64 t.til, .int .i64 t.pages, .int .i64 t.wait, .int .i64 t.got, .int .i64 t.ran, .bool t.mark, .slice pl t.links.length ql, .slice pd t.data.length qd, .slice pq t.queue.length qq]) (by simp [results, Try.results31, go_sem, r0, r1, r2, r3, r4, r5, r6, r7, r8, r9, r10, r11, r12]) rfl ⟨t, .slice pl t.links.length ql, .slice pd t.data.length qd, .slice pq t.queue.length qq, rfl, ?_, ?_⟩
      · exact HE9.out
      · exact HD9.out

end Go.Proofs.Ytabbncoihmhocaa

namespace Go.Proofs.Ytabbncoihmhocaa
open Go.RowKit

theorem treeS_bad1 {t : List Res} {k : Nat} {x : Res} (hx : t[k]? = some x) (h : placeS1 t k x = false) : treeOk t = false := by
  rw [← treeOkS_eq]
  unfold treeOkS
  rw [idxAll_bad hx h]
  simp
theorem treeS_bad2 {t : List Res} {k : Nat} {x : Res} (hx : t[k]? = some x) (h : placeS2 t k x = false) : treeOk t = false := by
  rw [← treeOkS_eq]
  unfold treeOkS
  rw [idxAll_bad hx h]
  simp
theorem treeS_end {t : List Res} (hh : treeHead t = true) (h1 : idxAll (placeS1 t) 0 t = true) (h2 : idxAll (placeS2 t) 0 t = true) : treeOk t = amtOk (sumLive t) := by
  rw [← treeOkS_eq]
  unfold treeOkS
  rw [hh, h1, h2]
  rfl
theorem s1_up {t : List Res} (hl : t.length = 5) (h : idxAll (placeS1 t) 0 t = true) : UpOk t ∧ ∀ x ∈ t, amtOk x.bal = true := by
  rw [idxAll_iff] at h
  constructor
  · intro i hi1 hi4 hlv
    obtain ⟨k, rfl⟩ := Int.eq_ofNat_of_zero_le (show 0 ≤ i by omega)
    obtain ⟨x, hx⟩ := some_at (l := t) (k := k) (by omega)
    rw [resAt_get hx] at hlv ⊢
    have := h k x hx
    simp only [placeS1, Nat.zero_add, Bool.and_eq_true, Bool.or_eq_true, Bool.not_eq_true', Bool.and_eq_false_iff, decide_eq_false_iff_not, hlv, inB_true] at this
    obtain ⟨_, _, h3⟩ := this
    rcases h3 with h3 | h3
    · rcases h3 with h3 | h3
      · omega
      · cases h3
    · exact ⟨h3.1.1, h3.1.2, h3.2.2⟩
  · intro x hx
    obtain ⟨k, hk⟩ := List.getElem?_of_mem hx
    have := h k x hk
    simp only [placeS1, Bool.and_eq_true] at this
    exact this.2.1

set_option maxRecDepth 100000 in
set_option maxHeartbeats 2000000 in
theorem l6Sum_any (a : Option Addr) (n cap : Nat) (t : List Res) (hn : n = t.length) (hl : n ≤ 1000) (hok : ∀ x ∈ t, amtOk x.bal = true) (w : World) (h : Rd w a (t.flatMap Res.enc)) :
    Calls Try.prog 30 #[.slice a n cap] w fun e w' => e = .returned (.agg #[.int .i64 (sumLive t).p, .int .i64 (sumLive t).r, .int .i64 (sumLive t).c]) ∧ Below w.heap.size w w' := by
  have Hn := Lib.hid hn
  have HOK := hideP hok
  clear hn hok
  go_enter Try.func30, Try.ntmps30
  go_wp2
  go_loopg [4] (n + 1) (fun gk i wr => ∃ (k : Nat) (s : Amt), n < gk + k ∧ k ≤ n ∧ i = .int .i64 k ∧ Hid (sumLive (t.take k) = s) ∧ InTo s k ∧ Hid (Blk wr (w.heap.size + 1) 55 [.int .i64 s.p, .int .i64 s.r, .int .i64 s.c]) ∧ Hid (Blk wr w.heap.size 55 [.int .i64 0, .int .i64 0, .int .i64 0]) ∧ Below w.heap.size w wr)
  case atStart => exact ⟨0, ⟨0, 0, 0⟩, by omega, by omega, rfl, hideP rfl, InTo.zero, hideP (by have := Blk.new (w.alloc (.cells #[.int .i64 0, .int .i64 0, .int .i64 0] 55)) #[.int .i64 0, .int .i64 0, .int .i64 0] 55; simpa using this), hideP ((Blk.new w #[.int .i64 0, .int .i64 0, .int .i64 0] 55).alloc _), below_a2 _ _ _⟩
  case round =>
    obtain ⟨k, s, hgk, hk, rfl, hS, hI, hB, hR, hb⟩ := hrel
    have c0 := hB.out.cell 0
    have c1 := hB.out.cell 1
    have c2 := hB.out.cell 2
    have f0 := hB.out.frozen 0
    have f1 := hB.out.frozen 1
    have f2 := hB.out.frozen 2
    simp only [List.getElem?_cons_zero, List.getElem?_cons_succ] at c0 c1 c2
    by_cases hlt : k < n
    · obtain ⟨x, hx⟩ := some_at (l := t) (k := k) (by have := Hn.out; omega)
      obtain ⟨b, o, rfl, hbw, g1, g2, g3, g4, g5⟩ := (h.below hb).rowRes hx
      have hbW : b < w.heap.size := by
        obtain ⟨b', o', e, hbw', _⟩ := h.rowRes hx
        cases e
        exact hbw'
      have n1 : b ≠ w.heap.size + 1 := by omega
      have n2 : w.heap.size + 1 ≠ b := by omega
      have hax := HOK.out x (List.mem_of_getElem? hx)
      have HS := Lib.hid (sumLive_next hx)
      obtain ⟨xl, xp, ⟨y1, y2, y3⟩⟩ := x
      dsimp only at g1 g2 g3 g4 g5
      cases xl
      · have HS' := Lib.hid (HS.out.trans (show _ = s from hS.out))
        clear hx hax HS
        go_wp2
        go_roundg (gk - 1)
        case measure => omega
        case rel => exact ⟨k + 1, s, by omega, by omega, by go_num, HS', hI.next, hB, hR, hb⟩
      · have HS' := Lib.hid (HS.out.trans (by rw [hS.out]; rfl : _ = amtAdd s ⟨y1, y2, y3⟩))
        have HI := hI.add hax
        have hin := amtOk_iff.1 hax
        have his := hI
        unfold InTo at his
        obtain ⟨⟨s1, s2⟩, ⟨s3, s4⟩, ⟨s5, s6⟩⟩ := his
        obtain ⟨⟨i1, i2⟩, ⟨i3, i4⟩, ⟨i5, i6⟩⟩ := hin
        dsimp only at i1 i2 i3 i4 i5 i6
        clear hx hax HS
        go_wp2
        go_region
        go_wp2
        go_region
        go_wp2
        go_region
        go_wp2
        go_roundg (gk - 1)
        case measure => omega
        case rel => exact ⟨k + 1, amtAdd s ⟨y1, y2, y3⟩, by omega, by omega, by go_num, HS', HI, hideP (((hB.out.set 0 _).set 1 _).set 2 _), hideP (((hR.out.other 0 _ (by omega)).other 1 _ (by omega)).other 2 _ (by omega)), (by repeat (first | exact hb | refine Below.drew ?_ | refine Below.setCell ?_ (by first | exact Nat.le_refl _ | (simp; done) | (simp; omega)) _))⟩
    · have hkn : k = n := by omega
      subst hkn
      rw [Hn.out, List.take_length] at hS
      have r0 := hR.out.cell 0
      have r1 := hR.out.cell 1
      have r2 := hR.out.cell 2
      have q0 := hR.out.frozen 0
      have q1 := hR.out.frozen 1
      have q2 := hR.out.frozen 2
      simp only [List.getElem?_cons_zero, List.getElem?_cons_succ] at r0 r1 r2
      go_wp2
      refine bodyPost_ret (v := .agg #[.int .i64 s.p, .int .i64 s.r, .int .i64 s.c]) (by simp [results, Try.results30, go_sem, r0, r1, r2]) rfl ⟨by rw [hS.out], ?_⟩
      repeat (refine Below.setCell ?_ (by first | exact Nat.le_refl _ | (simp; done) | (simp; omega)) _)
      exact hb

set_option maxRecDepth 100000 in
set_option maxHeartbeats 4000000 in
theorem specTreeOk_any (a : Option Addr) (n cap : Nat) (t : List Res) (hn : n = t.length) (hl : n ≤ 1048576) (w : World) (h : Rd w a (t.flatMap Res.enc)) :
    Calls Try.prog 8 #[.slice a n cap] w fun e w' => e = .returned (.bool (treeOk t)) ∧ Below w.heap.size w w' := by
  by_cases h5 : n = 5
  · subst h5
    obtain ⟨x0, hx0⟩ := some_at (l := t) (k := 0) (by omega)
    obtain ⟨b0, o0, rfl, hbw0, g1, g2, g3, g4, g5⟩ := h.rowRes hx0
    simp only [Nat.zero_mul, Nat.add_zero] at g1 g2
    have hd0 : t.headD zeroRes = x0 := by cases t <;> simp_all
    clear g3 g4 g5
    by_cases hhd : x0.live = true ∧ x0.par = -1
    · have Hh : Hid (treeHead t = true) := hideP (by unfold treeHead; rw [hd0, hhd.1, hhd.2, ← hn]; rfl)
      have Hn : Hid (t.length = 5) := hideP hn.symm
      obtain ⟨d1, d2'⟩ := hhd
      have d2 : (x0.par != -1) = false := by simp [d2']
      have Hx0 := Lib.hid hx0
      have Hl0 := Lib.hid d1
      clear hd0 hx0 d2' hn
      go_enter Try.func8, Try.ntmps8
      go_wp2
      clear d1 d2 g1 g2
      go_loopg [2, 3] 6 (fun gk r i wr => ∃ (k : Nat), 5 < gk + k ∧ k ≤ 5 ∧ i = .int .i64 k ∧ r = .bool false ∧ Hid (AllTo (placeS1 t) t k) ∧ Below w.heap.size w wr)
      case atStart => exact ⟨0, by omega, by omega, rfl, rfl, hideP (AllTo.zero _ _), Below.refl _ _⟩
      case round =>
        obtain ⟨k, hgk, hk, rfl, rfl, hA, hb⟩ := hrel
        by_cases hlt : k < 5
        · obtain ⟨x, hx⟩ := some_at (l := t) (k := k) (by have := Hn.out; omega)
          obtain ⟨b, o, ha, hbw, g1, g2, g3, g4, g5⟩ := (h.below hb).rowRes hx
          simp only [Option.some.injEq, Addr.mk.injEq, and_true] at ha
          obtain ⟨rfl, rfl⟩ := ha
          have Hx := Lib.hid hx
          clear hx
          obtain ⟨xl, xp, ⟨y1, y2, y3⟩⟩ := x
          dsimp only at g1 g2 g3 g4 g5
          cases xl
          · by_cases hz0 : xp = 0 ∧ y1 = 0 ∧ y2 = 0 ∧ y3 = 0
            · obtain ⟨rfl, rfl, rfl, rfl⟩ := hz0
              have HA := Lib.hid (hA.out.next Hx.out (show placeS1 t k ⟨false, 0, ⟨0, 0, 0⟩⟩ = true from by simp [placeS1, zeroRes, amtOk_zero]))
              go_wp2_with fail
              refine (specAmtOk_any ⟨0, 0, 0⟩ _).mono ?_
              rintro e w2 ⟨rfl, hb2⟩
              rw [amtOk_zero]
              obtain ⟨bc2, bf2⟩ := bcell hb2
              by_cases hk0 : 0 < k
              · have e0 : decide (0 < k) = true := by simpa using hk0
                have e1 : decide (0 < (k : Int)) = true := by simpa using hk0
                go_wp2
                go_roundg (gk - 1)
                case measure => omega
                case rel => exact ⟨k + 1, by omega, by omega, by go_num, rfl, HA, hb.trans (hb2.mono hb.size)⟩
              · have e0 : decide (0 < k) = false := by simpa using hk0
                have e1 : decide (0 < (k : Int)) = false := by simpa using hk0
                go_wp2
                go_roundg (gk - 1)
                case measure => omega
                case rel => exact ⟨k + 1, by omega, by omega, by go_num, rfl, HA, hb.trans (hb2.mono hb.size)⟩
            · have HB := Lib.hid (treeS_bad1 Hx.out (show placeS1 t k ⟨false, xp, ⟨y1, y2, y3⟩⟩ = false from by simp [placeS1, zeroRes]; intro e1 e2 e3 e4; exact absurd ⟨e1, e2, e3, e4⟩ hz0))
              have hz0' : xp ≠ 0 ∨ (xp = 0 ∧ y1 ≠ 0) ∨ (xp = 0 ∧ y1 = 0 ∧ y2 ≠ 0) ∨ (xp = 0 ∧ y1 = 0 ∧ y2 = 0 ∧ y3 ≠ 0) := by omega
              clear hz0
              rcases hz0' with e1 | ⟨rfl, e1⟩ | ⟨rfl, rfl, e1⟩ | ⟨rfl, rfl, rfl, e1⟩
              all_goals
                go_wp2
                go_ret
                exact ⟨ret_bool HB.out.symm, hb⟩
          · go_wp2_with fail
            refine (specAmtOk_any ⟨y1, y2, y3⟩ _).mono ?_
            rintro e w2 ⟨rfl, hb2⟩
            obtain ⟨bc2, bf2⟩ := bcell hb2
            have hb02 := Lib.hid (hb.trans (hb2.mono hb.size))
            cases ha : amtOk ⟨y1, y2, y3⟩
            · have HB := Lib.hid (treeS_bad1 Hx.out (show placeS1 t k ⟨true, xp, ⟨y1, y2, y3⟩⟩ = false from by simp [placeS1, ha]))
              go_wp2
              go_ret
              exact ⟨ret_bool HB.out.symm, hb02.out⟩
            · have Ha := Lib.hid ha
              clear ha
              by_cases hk0 : 0 < k
              · have e0 : decide (0 < k) = true := by simpa using hk0
                have e1 : decide (0 < (k : Int)) = true := by simpa using hk0
                cases hp : inB xp 0 4
                · have HB := Lib.hid (treeS_bad1 Hx.out (show placeS1 t k ⟨true, xp, ⟨y1, y2, y3⟩⟩ = false from by simp [placeS1, hp, hk0]))
                  go_wp2_with (go_at_call 29; refine (l6Res_any _ _).mono ?_; rintro e w' ⟨rfl, rfl⟩)
                  go_ret
                  exact ⟨ret_bool HB.out.symm, hb02.out⟩
                · have hpp := inB_true.1 hp
                  obtain ⟨q, rfl⟩ := Int.eq_ofNat_of_zero_le hpp.1
                  have hq5 : q < 5 := by omega
                  by_cases hqk : q = k
                  · have HB := Lib.hid (treeS_bad1 Hx.out (show placeS1 t k ⟨true, (q : Int), ⟨y1, y2, y3⟩⟩ = false from by simp [placeS1, hk0, hqk]))
                    have dq : ((q : Int) == (k : Int)) = true := by simp [hqk]
                    clear hqk hpp
                    go_wp2_with (go_at_call 29; refine (l6Res_any _ _).mono ?_; rintro e w' ⟨rfl, rfl⟩)
                    go_ret
                    exact ⟨ret_bool HB.out.symm, hb02.out⟩
                  · have dq : ((q : Int) == (k : Int)) = false := by simp; omega
                    obtain ⟨z, hz⟩ := some_at (l := t) (k := q) (by have := Hn.out; omega)
                    obtain ⟨b', o', ha', hbw', z1, z2, z3, z4, z5⟩ := (h.below hb).rowRes hz
                    simp only [Option.some.injEq, Addr.mk.injEq, and_true] at ha'
                    obtain ⟨rfl, rfl⟩ := ha'
                    cases hzl : z.live
                    · have HB := Lib.hid (treeS_bad1 Hx.out (show placeS1 t k ⟨true, (q : Int), ⟨y1, y2, y3⟩⟩ = false from by simp [placeS1, hk0, resAt_get hz, hzl]))
                      rw [hzl] at z1
                      clear hqk hpp hz
                      go_wp2_with (go_at_call 29; refine (l6Res_any _ _).mono ?_; rintro e w' ⟨rfl, rfl⟩)
                      go_ret
                      exact ⟨ret_bool HB.out.symm, hb02.out⟩
                    · have HA := Lib.hid (hA.out.next Hx.out (show placeS1 t k ⟨true, (q : Int), ⟨y1, y2, y3⟩⟩ = true from by simp [placeS1, hk0, resAt_get hz, hzl, hp, Ha.out]; omega))
                      rw [hzl] at z1
                      clear hqk hpp hz
                      go_wp2_with (go_at_call 29; refine (l6Res_any _ _).mono ?_; rintro e w' ⟨rfl, rfl⟩)
                      go_roundg (gk - 1)
                      case measure => omega
                      case rel => exact ⟨k + 1, by omega, by omega, by go_num, rfl, HA, hb02.out⟩
              · have e0 : decide (0 < k) = false := by simpa using hk0
                have e1 : decide (0 < (k : Int)) = false := by simpa using hk0
                have HA := Lib.hid (hA.out.next Hx.out (show placeS1 t k ⟨true, xp, ⟨y1, y2, y3⟩⟩ = true from by simp [placeS1, hk0, Ha.out]))
                go_wp2
                go_roundg (gk - 1)
                case measure => omega
                case rel => exact ⟨k + 1, by omega, by omega, by go_num, rfl, HA, hb02.out⟩
        · have H1 := Lib.hid (hA.out.all (by rw [Hn.out]; omega))
          have HUP := Lib.hid (s1_up Hn.out H1.out).1
          have HOK := Lib.hid (s1_up Hn.out H1.out).2
          clear hA hgk
          go_wp2
          go_loopg [2, 4] 6 (fun gk r i wi => ∃ (k : Nat), 5 < gk + k ∧ k ≤ 5 ∧ i = .int .i64 k ∧ r = .bool false ∧ Hid (AllTo (placeS2 t) t k) ∧ wr = wi)
          case atStart => exact ⟨0, by omega, by omega, rfl, rfl, hideP (AllTo.zero _ _), rfl⟩
          case round =>
            obtain ⟨k, hgk, hk, rfl, rfl, hA, rfl⟩ := hrel
            obtain ⟨gko, rfl⟩ : ∃ g, g = gk := ⟨_, rfl⟩
            by_cases hlt : k < 5
            · obtain ⟨x, hx⟩ := some_at (l := t) (k := k) (by have := Hn.out; omega)
              obtain ⟨b, o, ha, hbw, g1, g2, g3, g4, g5⟩ := (h.below hb).rowRes hx
              simp only [Option.some.injEq, Addr.mk.injEq, and_true] at ha
              obtain ⟨rfl, rfl⟩ := ha
              have Hx := Lib.hid hx
              have hrx := Lib.hid (resAt_get hx)
              have dk : decide ((k : Int) < 5) = true := by simp; omega
              clear hx g2 g3 g4 g5
              obtain ⟨xl, xp, y⟩ := x
              dsimp only at g1
              cases xl
              · have HA := Lib.hid (hA.out.next Hx.out (show placeS2 t k ⟨false, xp, y⟩ = true from rfl))
                go_wp2
                go_loopg [5, 6] 1 (fun gk2 av nv wi => av = .int .i64 k ∧ nv = .int .i64 (0 : Nat) ∧ wr = wi)
                case atStart => exact ⟨rfl, rfl, rfl⟩
                case round =>
                  obtain ⟨rfl, rfl, rfl⟩ := hrel
                  go_wp2
                  go_roundg (gko - 1)
                  case measure => omega
                  case rel => exact ⟨k + 1, by omega, by omega, by go_num, rfl, HA, rfl⟩
              · go_wp2
                go_loopg [5, 6] 7 (fun gk2 av nv wi => ∃ (m : Nat) (j : Int), 5 < gk2 + m ∧ m ≤ 5 ∧ av = .int .i64 j ∧ nv = .int .i64 m ∧ Hid (walkUp t 5 (k : Int) = walkUp t (5 - m) j) ∧ 0 ≤ j ∧ j ≤ 4 ∧ Hid ((resAt t j).live = true) ∧ wr = wi)
                case atStart => exact ⟨0, (k : Int), by omega, by omega, rfl, rfl, hideP rfl, by omega, by omega, hideP (by rw [hrx.out]), rfl⟩
                case round =>
                  obtain ⟨m, j, hgm, hm, rfl, rfl, hW, hj0, hj4, hL, rfl⟩ := hrel
                  by_cases hgo : m < 5 ∧ 0 < j
                  · obtain ⟨m5, j1⟩ := hgo
                    obtain ⟨q, rfl⟩ := Int.eq_ofNat_of_zero_le hj0
                    obtain ⟨z, hz⟩ := some_at (l := t) (k := q) (by have := Hn.out; omega)
                    obtain ⟨b', o', ha', hbw', z1, z2, z3, z4, z5⟩ := (h.below hb).rowRes hz
                    simp only [Option.some.injEq, Addr.mk.injEq, and_true] at ha'
                    obtain ⟨rfl, rfl⟩ := ha'
                    obtain ⟨p1, p2, p3⟩ := HUP.out (q : Int) (by omega) (by omega) hL.out
                    rw [resAt_get hz] at p1 p2 p3
                    have HW : Hid (walkUp t 5 (k : Int) = walkUp t (5 - (m + 1)) z.par) := hideP (by
                      rw [hW.out, show 5 - m = (5 - (m + 1)) + 1 from by omega, walkUp, if_pos j1, resAt_get hz])
                    have HP := Lib.hid p3
                    have hq5 : q < 5 := by omega
                    clear hz p3
                    go_wp2
                    go_roundg (gk - 1)
                    case measure => omega
                    case rel => exact ⟨m + 1, z.par, by omega, by omega, rfl, by go_num, HW, p1, p2, HP, rfl⟩
                  · have HE : Hid (walkUp t 5 (k : Int) = j) := hideP (by
                      rw [hW.out]
                      by_cases h0 : 0 < j
                      · rw [show 5 - m = 0 from by omega]; rfl
                      · cases 5 - m with
                        | zero => rfl
                        | succ f => rw [walkUp, if_neg h0])
                    have hc : 5 ≤ m ∨ (m < 5 ∧ j ≤ 0) := by omega
                    clear hgo hgm
                    by_cases hj : j = 0
                    · have HA := Lib.hid (hA.out.next Hx.out (show placeS2 t k ⟨true, xp, y⟩ = true from by simp [placeS2, HE.out, hj]))
                      have dj : (j != 0) = false := by simp [hj]
                      clear hj
                      rcases hc with hc | ⟨hc, hc'⟩
                      all_goals
                        go_wp2
                        go_roundg (gko - 1)
                        case measure => omega
                        case rel => exact ⟨k + 1, by omega, by omega, by go_num, rfl, HA, rfl⟩
                    · have HB := Lib.hid (treeS_bad2 Hx.out (show placeS2 t k ⟨true, xp, y⟩ = false from by simp [placeS2, HE.out, hj]))
                      have dj : (j != 0) = true := by simpa using hj
                      have hc5 : 5 ≤ m := by omega
                      clear hj hc
                      go_wp2
                      go_ret
                      exact ⟨ret_bool HB.out.symm, hb⟩
            · have H2 := Lib.hid (hA.out.all (by rw [Hn.out]; omega))
              have HT := Lib.hid (treeS_end Hh.out H1.out H2.out)
              go_wp2_with fail
              refine (l6Sum_any _ _ _ t Hn.out.symm (by omega) HOK.out _ (h.below hb)).mono ?_
              rintro e w2 ⟨rfl, hb2⟩
              go_wp2_with fail
              refine (specAmtOk_any (sumLive t) _).mono ?_
              rintro e w3 ⟨rfl, hb3⟩
              go_wp2
              go_ret
              exact ⟨ret_bool HT.out.symm, (hb.trans (hb2.mono hb.size)).trans (hb3.mono (Nat.le_trans hb.size hb2.size))⟩
    · have Hh : Hid (treeOk t = false) := hideP (by unfold treeOk treeHead; rw [hd0]; simp; intro _ e1 e2; exact absurd ⟨e1, e2⟩ hhd)
      have hc : x0.live = false ∨ (x0.live = true ∧ x0.par ≠ -1) := by cases hv : x0.live <;> simp_all
      clear hd0 hx0 hhd hn
      rcases hc with hv | ⟨hv, hp⟩
      · go_enter Try.func8, Try.ntmps8
        go_wp2
        go_ret
        exact ⟨ret_bool Hh.out.symm, Below.refl _ _⟩
      · have d2 : (x0.par != -1) = true := by simpa using hp
        clear hp
        go_enter Try.func8, Try.ntmps8
        go_wp2
        go_ret
        exact ⟨ret_bool Hh.out.symm, Below.refl _ _⟩
  · have Hh : Hid (treeOk t = false) := hideP (by unfold treeOk treeHead; rw [← hn]; simp [h5])
    have d1 : ((n : Int) != 5) = true := by simp; omega
    clear hn
    go_enter Try.func8, Try.ntmps8
    go_wp2
    go_ret
    exact ⟨ret_bool Hh.out.symm, Below.refl _ _⟩

end Go.Proofs.Ytabbncoihmhocaa

namespace Go.Proofs.Ytabbncoihmhocaa
open Go.RowKit

def amtPart (x : Amt) (i : Int) : Int := if i = 0 then x.p else if i = 1 then x.r else if i = 2 then x.c else 0
theorem amtPart_zero (i : Int) : amtPart ⟨0, 0, 0⟩ i = 0 := by unfold amtPart; split <;> (try rfl); split <;> (try rfl); split <;> rfl
theorem amtPart_in {x : Amt} {i : Int} (h : amtOk x = true) : 0 ≤ amtPart x i ∧ amtPart x i ≤ 1000000 := by
  rw [amtOk_iff] at h
  unfold amtPart
  split
  · omega
  · split
    · omega
    · split <;> omega
def hoardStep (i : Int) (a : Int) (r : Res) : Int := a + amtPart r.bal i
def hoard (t : List Res) (i : Int) : Int := if treeOk t = true then (t.drop 1).foldl (hoardStep i) 0 else 0
theorem fold_end' {α β : Type} {f : β → α → β} {l : List α} {acc r : β} {k : Nat} (h : r = (l.drop k).foldl f acc) (hk : l.length ≤ k) : r = acc := by
  rw [h, List.drop_eq_nil_of_le hk]; rfl
theorem fold_step' {α β : Type} {f : β → α → β} {l : List α} {acc r : β} {k : Nat} {x : α} (h : r = (l.drop k).foldl f acc) (hx : l[k]? = some x) : r = (l.drop (k + 1)).foldl f (f acc x) := by
  rw [h, drop_cons hx]; rfl

end Go.Proofs.Ytabbncoihmhocaa

namespace Go.Proofs.Ytabbncoihmhocaa
open Go.RowKit

def amtOne (i m : Int) : Amt := if i = 0 then ⟨m, 0, 0⟩ else if i = 1 then ⟨0, m, 0⟩ else if i = 2 then ⟨0, 0, m⟩ else ⟨0, 0, 0⟩
def amtFits (x y : Amt) : Bool := amtOk x && amtOk y && decide (x.p ≤ y.p) && decide (x.r ≤ y.r) && decide (x.c ≤ y.c)
def amtSub (x y : Amt) : Amt × Bool := if amtFits y x then (⟨x.p - y.p, x.r - y.r, x.c - y.c⟩, true) else (x, false)
def amtAddB (x y : Amt) : Amt × Bool := if amtOk x && (amtOk y && amtOk (amtAdd x y)) then (amtAdd x y, true) else (x, false)
theorem fits_in {x y : Amt} (h : amtFits x y = true) : (0 ≤ x.p ∧ x.p ≤ 1000000) ∧ (0 ≤ x.r ∧ x.r ≤ 1000000) ∧ (0 ≤ x.c ∧ x.c ≤ 1000000) ∧ x.p ≤ y.p ∧ y.p ≤ 1000000 ∧ x.r ≤ y.r ∧ y.r ≤ 1000000 ∧ x.c ≤ y.c ∧ y.c ≤ 1000000 := by
  unfold amtFits at h
  simp only [Bool.and_eq_true, decide_eq_true_eq] at h
  obtain ⟨⟨⟨⟨h1, h2⟩, h3⟩, h4⟩, h5⟩ := h
  have a := amtOk_iff.1 h1
  have b := amtOk_iff.1 h2
  omega

set_option maxHeartbeats 1000000 in
theorem specAmtFits_any (x y : Amt) (w : World) : Calls Try.prog 83 #[.agg #[.int .i64 x.p, .int .i64 x.r, .int .i64 x.c], .agg #[.int .i64 y.p, .int .i64 y.r, .int .i64 y.c]] w fun e w' => e = .returned (.bool (amtFits x y)) ∧ Below w.heap.size w w' := by
  go_enter Try.func83, Try.ntmps83
  go_wp2_with fail
  refine (specAmtOk_any x _).mono ?_
  rintro e w1 ⟨rfl, hb1⟩
  have hb01 := (below_a2 w _ _).trans (hb1.mono (by first | exact Nat.le_refl _ | (simp; done) | (simp; omega)))
  obtain ⟨bc1, bf1⟩ := bcell hb1
  have hz1 := hb1.size
  simp only [World.size_alloc] at bc1 bf1 hz1
  have q0 : w.heap.size < w1.heap.size := by omega
  have q1 : w.heap.size + 1 < w1.heap.size := by omega
  cases hx : amtOk x
  · have HR : Hid (amtFits x y = false) := hideP (by unfold amtFits; rw [hx]; rfl)
    go_wp2
    go_ret
    exact ⟨ret_bool HR.out.symm, hb01⟩
  go_wp2_with fail
  refine (specAmtOk_any y _).mono ?_
  rintro e w2 ⟨rfl, hb2⟩
  have hb02 := hb01.trans (hb2.mono hb01.size)
  obtain ⟨bc2, bf2⟩ := bcell hb2
  cases hy : amtOk y
  · have HR : Hid (amtFits x y = false) := hideP (by unfold amtFits; rw [hx, hy]; rfl)
    go_wp2
    go_ret
    exact ⟨ret_bool HR.out.symm, hb02⟩
  have HR : Hid (amtFits x y = (decide (x.p ≤ y.p) && (decide (x.r ≤ y.r) && decide (x.c ≤ y.c)))) := hideP (by unfold amtFits; rw [hx, hy]; simp [Bool.and_assoc])
  clear hx hy
  by_cases h1 : x.p ≤ y.p
  · by_cases h2 : x.r ≤ y.r
    · go_wp2
      all_goals (go_ret; exact ⟨ret_bool (by rw [HR.out]; first | (simp [h1, h2]; done) | (simp [h1]; done) | (simp <;> omega)), hb02⟩)
    · go_wp2
      go_ret
      exact ⟨ret_bool (by rw [HR.out]; simp <;> omega), hb02⟩
  · go_wp2
    go_ret
    exact ⟨ret_bool (by rw [HR.out]; simp <;> omega), hb02⟩

set_option maxHeartbeats 1000000 in
theorem specAmtSub_any (x y : Amt) (w : World) : Calls Try.prog 82 #[.agg #[.int .i64 x.p, .int .i64 x.r, .int .i64 x.c], .agg #[.int .i64 y.p, .int .i64 y.r, .int .i64 y.c]] w fun e w' => e = .returned (.tuple #[.agg #[.int .i64 ((amtSub x y).1).p, .int .i64 ((amtSub x y).1).r, .int .i64 ((amtSub x y).1).c], .bool (amtSub x y).2]) ∧ Below w.heap.size w w' := by
  go_enter Try.func82, Try.ntmps82
  go_wp2_with fail
  refine (specAmtFits_any y x _).mono ?_
  rintro e w1 ⟨rfl, hb1⟩
  have hb01 := (below_a3 w _ _ _).trans (hb1.mono (by first | exact Nat.le_refl _ | (simp; done) | (simp; omega)))
  obtain ⟨bc1, bf1⟩ := bcell hb1
  have hz1 := hb1.size
  simp only [World.size_alloc] at bc1 bf1 hz1
  have q0 : w.heap.size < w1.heap.size := by omega
  have q1 : w.heap.size + 1 < w1.heap.size := by omega
  have q2 : w.heap.size + 1 + 1 < w1.heap.size := by omega
  cases hx : amtFits y x
  · have HR : Hid (amtSub x y = (x, false)) := hideP (by unfold amtSub; rw [hx]; rfl)
    go_wp2
    refine bodyPost_ret (v := .tuple #[.agg #[.int .i64 x.p, .int .i64 x.r, .int .i64 x.c], .bool false]) (by simp [results, Try.results82, go_sem, bc1]) rfl ⟨by rw [HR.out], ?_⟩
    repeat (refine Below.setCell ?_ (by first | exact Nat.le_refl _ | (simp; done) | (simp; omega)) _)
    exact hb01
  · have HR : Hid (amtSub x y = (⟨x.p - y.p, x.r - y.r, x.c - y.c⟩, true)) := hideP (by unfold amtSub; rw [hx]; rfl)
    obtain ⟨⟨i1, i2⟩, ⟨i3, i4⟩, ⟨i5, i6⟩, j1, j2, j3, j4, j5, j6⟩ := fits_in hx
    clear hx
    go_wp2
    refine bodyPost_ret (v := .tuple #[.agg #[.int .i64 (x.p - y.p), .int .i64 (x.r - y.r), .int .i64 (x.c - y.c)], .bool true]) (by simp [results, Try.results82, go_sem, bc1]) rfl ⟨by rw [HR.out], ?_⟩
    repeat (refine Below.setCell ?_ (by first | exact Nat.le_refl _ | (simp; done) | (simp; omega)) _)
    exact hb01

set_option maxHeartbeats 800000 in
theorem specCopyTree_any (a : Option Addr) (n cap : Nat) (l : List Res) (hn : n = l.length) (hl : n ≤ 1048576) (w : World) (h : Rd w a (l.flatMap Res.enc)) :
    Calls Try.prog 78 #[.slice a n cap] w (OwnRet w 57 5 n (l.flatMap Res.enc)) := by
  have Hn := Lib.hid hn
  clear hn
  obtain ⟨i0, hi, hz0, hz1, hz2⟩ := info_parts Try.infoRes
  go_enter Try.func78, Try.ntmps78
  go_wp2_with (at_builtin; refine wpList_append_acc (w0 := w) rfl _ _ 24 rfl 57 i0 (.agg #[.bool false, .int .i64 0, .int .i64 0, .int .i64 0, .int .i64 0]) 5 40 Try.underlying24 hi hz0 hz1 hz2 rfl (by decide) _ _ _ rfl (Acc.nil (Below.refl _ _) rfl) a n cap (l.flatMap Res.enc) rfl ?c1 (h.below (below_a1 _ _)) ?c2 ?c3 ?c4 ?_)
  case c1 => rw [flat_length Res.enc 5 Res.enc_len, Hn.out]
  case c2 =>
    intro u hu
    obtain ⟨x, _, hx⟩ := List.mem_flatMap.1 hu
    simp [Res.enc] at hx
    rcases hx with rfl | rfl | rfl | rfl | rfl <;> simp [Value.oneCell']
  case c3 => unfold maxLen; omega
  case c4 => omega
  intro v' w' h1 _
  have H1 := Lib.hid h1
  clear h1
  go_wp2
  go_ret
  have h2 := H1.out.ret
  simpa using h2

set_option maxHeartbeats 1000000 in
theorem specAmtAdd_any (x y : Amt) (w : World) : Calls Try.prog 80 #[.agg #[.int .i64 x.p, .int .i64 x.r, .int .i64 x.c], .agg #[.int .i64 y.p, .int .i64 y.r, .int .i64 y.c]] w fun e w' => e = .returned (.tuple #[.agg #[.int .i64 ((amtAddB x y).1).p, .int .i64 ((amtAddB x y).1).r, .int .i64 ((amtAddB x y).1).c], .bool (amtAddB x y).2]) ∧ Below w.heap.size w w' := by
  go_enter Try.func80, Try.ntmps80
  go_wp2_with fail
  refine (specAmtOk_any x _).mono ?_
  rintro e w1 ⟨rfl, hb1⟩
  have hb01 := (below_a3 w _ _ _).trans (hb1.mono (by first | exact Nat.le_refl _ | (simp; done) | (simp; omega)))
  obtain ⟨bc1, bf1⟩ := bcell hb1
  have hz1 := hb1.size
  simp only [World.size_alloc] at bc1 bf1 hz1
  have q0 : w.heap.size < w1.heap.size := by omega
  have q1 : w.heap.size + 1 < w1.heap.size := by omega
  have q2 : w.heap.size + 1 + 1 < w1.heap.size := by omega
  cases hx : amtOk x
  · have HR : Hid (amtAddB x y = (x, false)) := hideP (by unfold amtAddB; rw [hx]; rfl)
    go_wp2
    refine bodyPost_ret (v := .tuple #[.agg #[.int .i64 x.p, .int .i64 x.r, .int .i64 x.c], .bool false]) (by simp [results, Try.results80, go_sem, bc1]) rfl ⟨by rw [HR.out], ?_⟩
    repeat (refine Below.setCell ?_ (by first | exact Nat.le_refl _ | (simp; done) | (simp; omega)) _)
    exact hb01
  go_wp2_with fail
  refine (specAmtOk_any y _).mono ?_
  rintro e w2 ⟨rfl, hb2⟩
  have hb02 := hb01.trans (hb2.mono hb01.size)
  obtain ⟨bc2, bf2⟩ := bcell hb2
  have hz2 := hb2.size
  have p0 : w.heap.size < w2.heap.size := by omega
  have p1 : w.heap.size + 1 < w2.heap.size := by omega
  have p2 : w.heap.size + 1 + 1 < w2.heap.size := by omega
  cases hy : amtOk y
  · have HR : Hid (amtAddB x y = (x, false)) := hideP (by unfold amtAddB; rw [hx, hy]; rfl)
    go_wp2
    refine bodyPost_ret (v := .tuple #[.agg #[.int .i64 x.p, .int .i64 x.r, .int .i64 x.c], .bool false]) (by simp [results, Try.results80, go_sem, bc1, bc2, q2]) rfl ⟨by rw [HR.out], ?_⟩
    repeat (refine Below.setCell ?_ (by first | exact Nat.le_refl _ | (simp; done) | (simp; omega)) _)
    exact hb02
  have HXY : Hid (amtAddB x y = if amtOk (amtAdd x y) then (amtAdd x y, true) else (x, false)) := hideP (by unfold amtAddB; rw [hx, hy]; rfl)
  obtain ⟨⟨x1, x2⟩, ⟨x3, x4⟩, ⟨x5, x6⟩⟩ := amtOk_iff.1 hx
  obtain ⟨⟨y1, y2⟩, ⟨y3, y4⟩, ⟨y5, y6⟩⟩ := amtOk_iff.1 hy
  clear hx hy
  go_wp2_with fail
  refine (specAmtOk_any (amtAdd x y) _).mono ?_
  rintro e w3 ⟨rfl, hb3⟩
  have hb03 := (hb02.alloc hb02.size _).trans (hb3.mono (by have := hb02.size; simp; omega))
  obtain ⟨bc3, bf3⟩ := bcell hb3
  have hz3 := hb3.size
  simp only [World.size_alloc] at bc3 bf3 hz3
  have r0 : w.heap.size < w3.heap.size := by omega
  have r1 : w.heap.size + 1 < w3.heap.size := by omega
  have r2 : w.heap.size + 1 + 1 < w3.heap.size := by omega
  have r3 : w2.heap.size < w3.heap.size := by omega
  have s0 : w.heap.size < w2.heap.size + 1 := by omega
  have s2 : w.heap.size + 1 + 1 < w2.heap.size + 1 := by omega
  have ne1 : w.heap.size ≠ w2.heap.size := by omega
  have ne2 : w.heap.size + 1 + 1 ≠ w2.heap.size := by omega
  cases hxy : amtOk (amtAdd x y)
  · have HR : Hid (amtAddB x y = (x, false)) := hideP (by rw [HXY.out, hxy]; rfl)
    go_wp2
    refine bodyPost_ret (v := .tuple #[.agg #[.int .i64 x.p, .int .i64 x.r, .int .i64 x.c], .bool false]) (by simp [results, Try.results80, go_sem, bc1, bc2, bc3, q2, p2, s2]) rfl ⟨by rw [HR.out], ?_⟩
    repeat (refine Below.setCell ?_ (by first | exact Nat.le_refl _ | (simp; done) | (simp; omega)) _)
    exact hb03
  · have HR : Hid (amtAddB x y = (amtAdd x y, true)) := hideP (by rw [HXY.out, hxy]; rfl)
    go_wp2
    refine bodyPost_ret (v := .tuple #[.agg #[.int .i64 (amtAdd x y).p, .int .i64 (amtAdd x y).r, .int .i64 (amtAdd x y).c], .bool true]) (by simp [results, Try.results80, go_sem, bc1, bc2, bc3, q2, p2, s2, amtAdd]) rfl ⟨by rw [HR.out], ?_⟩
    repeat (refine Below.setCell ?_ (by first | exact Nat.le_refl _ | (simp; done) | (simp; omega)) _)
    exact hb03

end Go.Proofs.Ytabbncoihmhocaa

namespace Go.Proofs.Ytabbncoihmhocaa
open Go.RowKit

def amtDif (x y : Amt) : Amt := ⟨x.p - y.p, x.r - y.r, x.c - y.c⟩
def payT (t : List Res) (i : Int) (a : Amt) : List Res × Bool :=
  if (treeOk t && (isLiveB t i && amtFits a (resAt t i).bal)) = true then (t.set i.toNat ⟨true, (resAt t i).par, amtDif (resAt t i).bal a⟩, true) else (t, false)
def backAt (t : List Res) (i : Int) : Int := if isLiveB t i = true then i else 0
def backT (t : List Res) (i : Int) (a : Amt) : List Res × Bool :=
  if (treeOk t && (amtOk a && amtOk (amtAdd (sumAll t) a))) = true then (t.set (backAt t i).toNat ⟨true, (resAt t (backAt t i)).par, amtAdd (resAt t (backAt t i)).bal a⟩, true) else (t, false)
def giveT (t : List Res) (i j : Int) (a : Amt) : List Res × Bool :=
  if ((payT t i a).2 && isLiveB t j) = true then backT (payT t i a).1 j a else (t, false)

/-- Another balance in a place that lives. -/
theorem tree_set {t : List Res} {k : Nat} {x : Res} {b : Amt} (h : treeOk t = true) (hx : t[k]? = some x) (hl : x.live = true) (hb : amtOk b = true) (hs : amtOk (sumAll (t.set k ⟨true, x.par, b⟩)) = true) : treeOk (t.set k ⟨true, x.par, b⟩) = true := by
  obtain ⟨h5, hh, hp, _⟩ := tree_parts h
  have hk : k < t.length := (List.getElem?_eq_some_iff.1 hx).1
  have hsame : ∀ i : Int, (resAt (t.set k ⟨true, x.par, b⟩) i).live = (resAt t i).live ∧ (resAt (t.set k ⟨true, x.par, b⟩) i).par = (resAt t i).par := by
    intro i
    rw [resAt_set hx]
    by_cases e : i.toNat = k
    · rw [if_pos e, resAt_nat hx e]; exact ⟨hl.symm, rfl⟩
    · rw [if_neg e]; exact ⟨rfl, rfl⟩
  refine tree_mk ?_ (fun j y hy => ?_) hs
  · obtain ⟨_, x0, hx0, hl0, hp0⟩ := head_get hh
    unfold treeHead
    have e0 : (t.set k ⟨true, x.par, b⟩).headD zeroRes = resAt (t.set k ⟨true, x.par, b⟩) 0 := by
      unfold resAt
      cases t.set k ⟨true, x.par, b⟩ <;> rfl
    have hr0 : resAt t 0 = x0 := resAt_get (k := 0) hx0
    rw [e0, (hsame 0).1, (hsame 0).2, hr0, hl0, hp0, List.length_set, h5]
    rfl
  · rw [List.getElem?_set] at hy
    unfold placeI
    rw [leads_congr hsame]
    split at hy
    · rename_i e
      cases hy
      subst e
      have := hp _ x hx
      unfold placeI at this
      rw [hl, if_pos rfl, Bool.and_eq_true] at this
      simp [hb, this.2]
    · have := hp _ y hy
      unfold placeI at this
      exact this
theorem sumAll_set {t : List Res} {k : Nat} {x : Res} {q : Int} {b : Amt} (h : t.length = 5) (hx : t[k]? = some x) :
    sumAll (t.set k ⟨true, q, b⟩) = ⟨(sumAll t).p - x.bal.p + b.p, (sumAll t).r - x.bal.r + b.r, (sumAll t).c - x.bal.c + b.c⟩ := by
  obtain ⟨x0, x1, x2, x3, x4, rfl⟩ := five h
  match k, hx with
  | 0, hx => cases hx; simp only [List.set_cons_zero, sumAll5, Amt.mk.injEq]; omega
  | 1, hx => cases hx; simp only [List.set_cons_zero, List.set_cons_succ, sumAll5, Amt.mk.injEq]; omega
  | 2, hx => cases hx; simp only [List.set_cons_zero, List.set_cons_succ, sumAll5, Amt.mk.injEq]; omega
  | 3, hx => cases hx; simp only [List.set_cons_zero, List.set_cons_succ, sumAll5, Amt.mk.injEq]; omega
  | 4, hx => cases hx; simp only [List.set_cons_zero, List.set_cons_succ, sumAll5, Amt.mk.injEq]; omega
  | n + 5, hx => simp at hx
theorem bal_le {t : List Res} (h : treeOk t = true) {k : Nat} {x : Res} (hx : t[k]? = some x) : x.bal.p ≤ (sumAll t).p ∧ x.bal.r ≤ (sumAll t).r ∧ x.bal.c ≤ (sumAll t).c := by
  obtain ⟨h5, hpl⟩ := tree_places h
  obtain ⟨x0, x1, x2, x3, x4, rfl⟩ := five h5
  have a0 := amtOk_iff.1 (hpl 0 x0 rfl).1
  have a1 := amtOk_iff.1 (hpl 1 x1 rfl).1
  have a2 := amtOk_iff.1 (hpl 2 x2 rfl).1
  have a3 := amtOk_iff.1 (hpl 3 x3 rfl).1
  have a4 := amtOk_iff.1 (hpl 4 x4 rfl).1
  rw [sumAll5]
  match k, hx with
  | 0, hx => cases hx; dsimp only; omega
  | 1, hx => cases hx; dsimp only; omega
  | 2, hx => cases hx; dsimp only; omega
  | 3, hx => cases hx; dsimp only; omega
  | 4, hx => cases hx; dsimp only; omega
  | n + 5, hx => simp at hx
theorem live_get {t : List Res} {i : Int} (h5 : t.length = 5) (h : isLiveB t i = true) : ∃ (k : Nat) (x : Res), i = (k : Int) ∧ k < 5 ∧ t[k]? = some x ∧ x.live = true ∧ resAt t i = x := by
  unfold isLiveB at h
  rw [Bool.and_eq_true, inB_true] at h
  obtain ⟨⟨h0, h4⟩, hl⟩ := h
  obtain ⟨k, rfl⟩ := Int.eq_ofNat_of_zero_le h0
  obtain ⟨x, hx⟩ := some_at (l := t) (k := k) (by omega)
  rw [resAt_get hx] at hl
  exact ⟨k, x, rfl, by omega, hx, hl, resAt_get hx⟩
theorem back_get {t : List Res} (h : treeOk t = true) (i : Int) : ∃ (k : Nat) (x : Res), backAt t i = (k : Int) ∧ k < 5 ∧ t[k]? = some x ∧ x.live = true ∧ resAt t (backAt t i) = x := by
  obtain ⟨h5, hh, _, _⟩ := tree_parts h
  unfold backAt
  cases hl : isLiveB t i
  · rw [if_neg (by decide)]
    obtain ⟨_, x, hx, hl0, _⟩ := head_get hh
    exact ⟨0, x, rfl, by decide, hx, hl0, resAt_get (k := 0) hx⟩
  · rw [if_pos rfl]
    exact live_get h5 hl
/-- Two trees in which the same places live below the same places. -/
def SameUp (t t' : List Res) : Prop := ∀ i : Int, (resAt t' i).live = (resAt t i).live ∧ (resAt t' i).par = (resAt t i).par
theorem SameUp.refl (t : List Res) : SameUp t t := fun _ => ⟨rfl, rfl⟩
theorem SameUp.trans {a b c : List Res} (h : SameUp a b) (k : SameUp b c) : SameUp a c := fun i => ⟨(k i).1.trans (h i).1, (k i).2.trans (h i).2⟩
theorem SameUp.live {a b : List Res} (h : SameUp a b) (i : Int) : isLiveB b i = isLiveB a i := by unfold isLiveB; rw [(h i).1]
theorem SameUp.set {t : List Res} {k : Nat} {x : Res} (hx : t[k]? = some x) (hl : x.live = true) (b : Amt) : SameUp t (t.set k ⟨true, x.par, b⟩) := by
  intro i
  rw [resAt_set hx]
  by_cases e : i.toNat = k
  · rw [if_pos e, resAt_nat hx e]; exact ⟨hl.symm, rfl⟩
  · rw [if_neg e]; exact ⟨rfl, rfl⟩
theorem dif_ok {x y : Amt} (h : amtFits y x = true) : amtOk (amtDif x y) = true := by
  have := fits_in h
  rw [amtOk_iff]
  unfold amtDif
  dsimp only
  omega
/-- What a payment leaves. -/
theorem pay_yes {t : List Res} {i : Int} {a : Amt} (h : treeOk t = true) (hl : isLiveB t i = true) (hf : amtFits a (resAt t i).bal = true) :
    ∃ (k : Nat) (x : Res), i = (k : Int) ∧ k < 5 ∧ t[k]? = some x ∧ x.live = true ∧ payT t i a = (t.set k ⟨true, x.par, amtDif x.bal a⟩, true) ∧ treeOk (t.set k ⟨true, x.par, amtDif x.bal a⟩) = true ∧
      sumAll (t.set k ⟨true, x.par, amtDif x.bal a⟩) = amtDif (sumAll t) a ∧ SameUp t (t.set k ⟨true, x.par, amtDif x.bal a⟩) := by
  obtain ⟨h5, hh, hp, hs⟩ := tree_parts h
  obtain ⟨k, x, rfl, hk, hx, hlx, hr⟩ := live_get h5 hl
  have he : payT t (k : Int) a = (t.set k ⟨true, x.par, amtDif x.bal a⟩, true) := by
    unfold payT
    rw [h, hl, hf, hr]
    simp
  rw [hr] at hf
  have hsum : sumAll (t.set k ⟨true, x.par, amtDif x.bal a⟩) = amtDif (sumAll t) a := by
    rw [sumAll_set h5 hx]
    unfold amtDif
    simp only [Amt.mk.injEq]
    omega
  refine ⟨k, x, rfl, hk, hx, hlx, he, tree_set h hx hlx (dif_ok hf) ?_, hsum, SameUp.set hx hlx _⟩
  have hb := bal_le h hx
  have hi := fits_in hf
  rw [hsum, amtOk_iff]
  rw [amtOk_iff] at hs
  unfold amtDif
  dsimp only
  omega
theorem pay_no {t : List Res} {i : Int} {a : Amt} (h : ¬ (treeOk t = true ∧ isLiveB t i = true ∧ amtFits a (resAt t i).bal = true)) : payT t i a = (t, false) := by
  unfold payT
  rw [if_neg (by simpa [Bool.and_eq_true] using h)]
theorem back_yes {t : List Res} {i : Int} {a : Amt} (h : treeOk t = true) (ha : amtOk a = true) (hs : amtOk (amtAdd (sumAll t) a) = true) :
    ∃ (k : Nat) (x : Res), backAt t i = (k : Int) ∧ k < 5 ∧ t[k]? = some x ∧ x.live = true ∧ backT t i a = (t.set k ⟨true, x.par, amtAdd x.bal a⟩, true) ∧ treeOk (t.set k ⟨true, x.par, amtAdd x.bal a⟩) = true ∧
      sumAll (t.set k ⟨true, x.par, amtAdd x.bal a⟩) = amtAdd (sumAll t) a ∧ SameUp t (t.set k ⟨true, x.par, amtAdd x.bal a⟩) ∧ amtOk (amtAdd x.bal a) = true := by
  obtain ⟨h5, hh, hp, _⟩ := tree_parts h
  obtain ⟨k, x, hk0, hk, hx, hlx, hr⟩ := back_get h i
  have he : backT t i a = (t.set k ⟨true, x.par, amtAdd x.bal a⟩, true) := by
    unfold backT
    rw [h, ha, hs, hr, hk0]
    simp
  have hsum : sumAll (t.set k ⟨true, x.par, amtAdd x.bal a⟩) = amtAdd (sumAll t) a := by
    rw [sumAll_set h5 hx]
    unfold amtAdd
    simp only [Amt.mk.injEq]
    omega
  have hb : amtOk (amtAdd x.bal a) = true := by
    have h1 := bal_le h hx
    have h2 := amtOk_iff.1 ((tree_places h).2 k x hx).1
    have h3 := amtOk_iff.1 ha
    have h4 := amtOk_iff.1 hs
    unfold amtAdd at h4 ⊢
    rw [amtOk_iff]
    dsimp only at h4 ⊢
    omega
  exact ⟨k, x, hk0, hk, hx, hlx, he, tree_set h hx hlx hb (by rw [hsum]; exact hs), hsum, SameUp.set hx hlx _, hb⟩
theorem back_no {t : List Res} {i : Int} {a : Amt} (h : ¬ (treeOk t = true ∧ amtOk a = true ∧ amtOk (amtAdd (sumAll t) a) = true)) : backT t i a = (t, false) := by
  unfold backT
  rw [if_neg (by simpa [Bool.and_eq_true] using h)]
theorem pay_len (t : List Res) (i : Int) (a : Amt) : (payT t i a).1.length = t.length := by unfold payT; split <;> simp
theorem back_len (t : List Res) (i : Int) (a : Amt) : (backT t i a).1.length = t.length := by unfold backT; split <;> simp
theorem give_len (t : List Res) (i j : Int) (a : Amt) : (giveT t i j a).1.length = t.length := by unfold giveT; split <;> simp [back_len, pay_len]
theorem pay_sub {t : List Res} {k : Nat} {x : Res} {a : Amt} (h : treeOk t = true) (hl : isLiveB t (k : Int) = true) (hx : t[k]? = some x) (hlx : x.live = true) : payT t (k : Int) a = (t.set k ⟨x.live, x.par, (amtSub x.bal a).1⟩, (amtSub x.bal a).2) := by
  unfold payT amtSub
  rw [h, hl, resAt_get hx, Bool.true_and, Bool.true_and, Int.toNat_natCast, hlx]
  split
  · rfl
  · have : t.set k ⟨true, x.par, x.bal⟩ = t := by
      have e : (⟨true, x.par, x.bal⟩ : Res) = x := by rw [← hlx]
      rw [e]
      obtain ⟨hk, rfl⟩ := List.getElem?_eq_some_iff.1 hx
      exact List.set_getElem_self hk
    rw [this]
theorem Acc.bal {w0 w : World} {E : TypeId} {g c n k : Nat} {t : List Res} {x : Res} {b : Amt} (h : Acc w0 E 5 n (t.flatMap Res.enc) (.slice (some ⟨g, 0, none⟩) n c) w) (hg : w0.heap.size ≤ g) (hx : t[k]? = some x) :
    Acc w0 E 5 n ((t.set k ⟨x.live, x.par, b⟩).flatMap Res.enc) (.slice (some ⟨g, 0, none⟩) n c) (((w.setCell ⟨g, k * 5 + 2, none⟩ (.int .i64 b.p)).setCell ⟨g, k * 5 + 2 + 1, none⟩ (.int .i64 b.r)).setCell ⟨g, k * 5 + 2 + 2, none⟩ (.int .i64 b.c)) := by
  have hk : k < t.length := (List.getElem?_eq_some_iff.1 hx).1
  have h1 := h.setField (x' := ⟨x.live, x.par, ⟨b.p, x.bal.r, x.bal.c⟩⟩) (j := 2) (u := .int .i64 b.p) Res.enc_len hg hx (by decide) rfl
  have h2 := h1.setField (x := ⟨x.live, x.par, ⟨b.p, x.bal.r, x.bal.c⟩⟩) (x' := ⟨x.live, x.par, ⟨b.p, b.r, x.bal.c⟩⟩) (k := k) (j := 2 + 1) (u := .int .i64 b.r) Res.enc_len hg (by rw [List.getElem?_set_self hk]) (by decide) rfl
  have h3 := h2.setField (x := ⟨x.live, x.par, ⟨b.p, b.r, x.bal.c⟩⟩) (x' := ⟨x.live, x.par, b⟩) (k := k) (j := 2 + 2) (u := .int .i64 b.c) Res.enc_len hg (by rw [List.getElem?_set_self (by simpa using hk)]) (by decide) rfl
  rw [List.set_set, List.set_set] at h3
  simpa [Nat.add_assoc] using h3
end Go.Proofs.Ytabbncoihmhocaa

namespace Go.Proofs.Ytabbncoihmhocaa
open Go.RowKit

theorem Acc.ret2' {w0 w : World} {r : List Res × Bool} {l : List Res} {b : Bool} {n : Nat} {v : Value} (h : Acc w0 57 5 n (l.flatMap Res.enc) v w) (hr : r = (l, b)) : OwnRet2 w0 57 5 n (r.1.flatMap Res.enc) r.2 (.returned (.tuple #[v, .bool b])) w := by
  subst hr; exact h.ret2 b
theorem sumAll_next {t : List Res} {k : Nat} {x : Res} (hx : t[k]? = some x) : sumAll (t.take (k + 1)) = amtAdd (sumAll (t.take k)) x.bal := by
  obtain ⟨hk, rfl⟩ := List.getElem?_eq_some_iff.1 hx
  unfold sumAll
  rw [List.take_succ_eq_append_getElem hk, List.foldl_append]
  rfl
def treeSum (t : List Res) : Amt := if treeOk t = true then sumAll t else ⟨0, 0, 0⟩
set_option maxRecDepth 100000 in
set_option maxHeartbeats 1000000 in
theorem l6Live_any (ad : Option Addr) (n cap : Nat) (t : List Res) (i : Int) (hn : n = t.length) (hl : n ≤ 1048576) (w : World) (h : Rd w ad (t.flatMap Res.enc)) :
    Calls Try.prog 79 #[.slice ad n cap, .int .i64 i] w fun e w' => e = .returned (.bool (treeOk t && isLiveB t i)) ∧ Below w.heap.size w w' := by
  have Hn := Lib.hid hn
  clear hn
  go_enter Try.func79, Try.ntmps79
  go_wp2_with fail
  refine (specTreeOk_any _ _ _ t Hn.out hl _ h).mono ?_
  rintro e w1 ⟨rfl, hb1⟩
  cases hok : treeOk t
  · go_wp2
    go_ret
    exact ⟨ret_bool (by rw [hok]; rfl), hb1⟩
  · have hn5 : n = 5 := by have := Hn.out; have := (tree_parts hok).1; omega
    subst hn5
    have Hok := Lib.hid hok
    clear hok
    go_wp2_with fail
    refine (l6Res_any i _).mono ?_
    rintro e w' ⟨rfl, rfl⟩
    cases t1 : inB i 0 4
    · have HR : Hid (isLiveB t i = false) := hideP (by unfold isLiveB; rw [t1]; rfl)
      go_wp2
      go_ret
      exact ⟨ret_bool (by rw [HR.out, Hok.out]; rfl), hb1⟩
    · have hb := inB_true.1 t1
      obtain ⟨k, rfl⟩ := Int.eq_ofNat_of_zero_le hb.1
      obtain ⟨x, hx⟩ := some_at (l := t) (k := k) (by have := Hn.out; omega)
      have HR : Hid (isLiveB t (k : Int) = x.live) := hideP (by unfold isLiveB; rw [t1, resAt_get hx]; rfl)
      obtain ⟨b, o, rfl, hbw, g1, g2, g3, g4, g5⟩ := (h.below hb1).rowRes hx
      have hk : k < 5 := by omega
      clear hb hx t1
      go_wp2
      go_ret
      exact ⟨ret_bool (by rw [HR.out, Hok.out]; rfl), hb1⟩

set_option maxRecDepth 100000 in
set_option maxHeartbeats 1000000 in
theorem specTreePay_any (ad : Option Addr) (n cap : Nat) (t : List Res) (i : Int) (a : Amt) (hn : n = t.length) (hl : n ≤ 1048576) (w : World) (h : Rd w ad (t.flatMap Res.enc)) :
    Calls Try.prog 81 #[.slice ad n cap, .int .i64 i, .agg #[.int .i64 a.p, .int .i64 a.r, .int .i64 a.c]] w (OwnRet2 w 57 5 n ((payT t i a).1.flatMap Res.enc) (payT t i a).2) := by
  have Hn := Lib.hid hn
  clear hn
  go_enter Try.func81, Try.ntmps81
  go_wp2_with fail
  refine (specCopyTree_any _ _ _ t Hn.out hl _ (h.below (below_a1 _ _))).mono ?_
  rintro e w1 ⟨v1, rfl, ho1, hb1⟩
  have hb01 := (below_a1 w _).trans (hb1.mono (by simp))
  have HA := hideP (Acc.of (below_a1 w _) ho1 hb1)
  obtain ⟨bc1, bf1⟩ := bcell hb1
  have hz1 := hb1.size
  simp only [World.size_alloc] at bc1 bf1 hz1
  clear ho1
  cases hok : (treeOk t && isLiveB t i)
  · have HR : Hid (payT t i a = (t, false)) := hideP (pay_no (by intro h; simp [h.1, h.2.1] at hok))
    go_wp2_with fail
    refine (l6Live_any _ _ _ t i Hn.out hl _ (h.below hb01)).mono ?_
    rintro e w2 ⟨rfl, hb2⟩
    rw [hok]
    go_wp2
    go_ret2
    exact (HA.out.below hb2).ret2' HR.out
  · have h5 := (tree_parts (Bool.and_eq_true_iff.1 hok).1).1
    have hn5 : n = 5 := by have := Hn.out; omega
    subst hn5
    have hlv := (Bool.and_eq_true_iff.1 hok).2
    have Hok := Lib.hid (Bool.and_eq_true_iff.1 hok).1
    go_wp2_with fail
    refine (l6Live_any _ _ _ t i Hn.out hl _ (h.below hb01)).mono ?_
    rintro e w2 ⟨rfl, hb2⟩
    rw [hok]
    have hb02 := hb01.trans (hb2.mono hb01.size)
    obtain ⟨bc2, bf2⟩ := bcell hb2
    have hz2 := hb2.size
    have H5 := Lib.hid h5
    clear hok h5
    · obtain ⟨k, x, rfl, hk, hx, hlx, hr⟩ := live_get H5.out hlv
      obtain ⟨b, o, rfl, hbw, g1, g2, g3, g4, g5⟩ := (h.below hb02).rowRes hx
      have Hx := Lib.hid hx
      have Hlv := Lib.hid hlv
      have Hlx := Lib.hid hlx
      have HR := hideP (pay_sub (a := a) Hok.out hlv hx hlx)
      have HT2 := hideP (HA.out.below hb2)
      obtain ⟨g, c, rfl, hg0, hg1⟩ := HT2.out.block (by decide)
      have q0 : w.heap.size < w1.heap.size := by omega
      have p0 : w.heap.size < w2.heap.size := by omega
      clear hx hlv hr hlx
      have k0 : (0 : Int) ≤ (k : Int) := by omega
      have k5 : (k : Int) < 5 := by omega
      have a1 : w2.cell? ⟨w.heap.size, 0, none⟩ = some (.int .i64 a.p) := by rw [bc2 _ _ q0, bc1 _ _ (by omega)]; simp
      have a2 : w2.cell? ⟨w.heap.size, 1, none⟩ = some (.int .i64 a.r) := by rw [bc2 _ _ q0, bc1 _ _ (by omega)]; simp
      have a3 : w2.cell? ⟨w.heap.size, 2, none⟩ = some (.int .i64 a.c) := by rw [bc2 _ _ q0, bc1 _ _ (by omega)]; simp
      obtain ⟨⟨y0, c0⟩, f0⟩ := owns_at HT2.out.1 (j := k * 5 + 2) (by omega)
      obtain ⟨⟨y1, c1⟩, f1⟩ := owns_at HT2.out.1 (j := k * 5 + 3) (by omega)
      obtain ⟨⟨y2, c2⟩, f2⟩ := owns_at HT2.out.1 (j := k * 5 + 4) (by omega)
      have hgn : g ≠ w2.heap.size := by omega
      cases hf : amtFits a x.bal
      · have hs : amtSub x.bal a = (x.bal, false) := by unfold amtSub; rw [hf]; rfl
        have HC := hideP (fun W => specAmtSub_any x.bal a W)
        rw [hs] at HC HR
        have hid : t.set k ⟨x.live, x.par, x.bal⟩ = t := by
          obtain ⟨hk, e⟩ := List.getElem?_eq_some_iff.1 Hx.out
          have e2 : (⟨x.live, x.par, x.bal⟩ : Res) = x := rfl
          rw [e2, ← e]; exact List.set_getElem_self hk
        rw [show (x.bal, false).1 = x.bal from rfl, hid] at HR
        clear hf hs hid
        go_wp2
        go_region_held3 (fun w' => w'.cell? ⟨b, o + k * 5 + 2, none⟩ = some (.int .i64 x.bal.p) ∧ w'.cell? ⟨b, o + k * 5 + 3, none⟩ = some (.int .i64 x.bal.r) ∧ w'.cell? ⟨b, o + k * 5 + 4, none⟩ = some (.int .i64 x.bal.c) ∧ w'.cell? ⟨w.heap.size, 0, none⟩ = some (.int .i64 a.p) ∧ w'.cell? ⟨w.heap.size, 1, none⟩ = some (.int .i64 a.r) ∧ w'.cell? ⟨w.heap.size, 2, none⟩ = some (.int .i64 a.c) ∧ Below w2.heap.size w2 w') ((first | (with_reducible exact heldC6 (by assumption) (by assumption) (Nat.le_refl _) hbw hbw hbw p0 p0 p0) | (with_reducible exact heldA6 (by assumption) (Nat.le_refl _) hbw hbw hbw p0 p0 p0) | (with_reducible exact heldAd6 (by assumption) (Nat.le_refl _) hbw hbw hbw p0 p0 p0) | (with_reducible exact heldR6 (by assumption) (by assumption) hbw hbw hbw p0 p0 p0) | (with_reducible exact heldRd6 (by assumption) (by assumption) hbw hbw hbw p0 p0 p0) | (with_reducible exact heldR6 (by assumption) (Nat.le_refl _) hbw hbw hbw p0 p0 p0) | (with_reducible exact heldRd6 (by assumption) (Nat.le_refl _) hbw hbw hbw p0 p0 p0) | ((with_reducible refine heldB6 (by assumption) ?_ hbw hbw hbw p0 p0 p0); (repeat (refine Below.setCell ?_ (by first | exact Nat.le_refl _ | (simp; done) | (simp; omega)) _)); exact Below.refl _ _) | exact held06 g3 g4 g5 a1 a2 a3)) (first | (go_at_call 82; refine (HC.out _).mono ?_; rintro e w3 ⟨rfl, hb3⟩; obtain ⟨bc3, bf3⟩ := bcell hb3; have hz3 : w2.heap.size ≤ w3.heap.size := Nat.le_trans (by first | exact Nat.le_refl _ | omega | (simp; done) | (simp; omega)) hb3.size; (try simp only [World.size_alloc, World.size_drew, World.cell?_drew, World.frozen?_drew] at bc3 bf3); have hx3 := hb3.size; (try simp only [World.size_alloc, World.size_drew, World.size_setCell] at hx3); (try have hy3 : w2.heap.size < w3.heap.size := by omega)))
        all_goals
          obtain ⟨_, _, _, _, _, _, hS⟩ : World.cell? _ ⟨b, o + k * 5 + 2, none⟩ = some (.int .i64 x.bal.p) ∧ World.cell? _ ⟨b, o + k * 5 + 3, none⟩ = some (.int .i64 x.bal.r) ∧ World.cell? _ ⟨b, o + k * 5 + 4, none⟩ = some (.int .i64 x.bal.c) ∧ World.cell? _ ⟨w.heap.size, 0, none⟩ = some (.int .i64 a.p) ∧ World.cell? _ ⟨w.heap.size, 1, none⟩ = some (.int .i64 a.r) ∧ World.cell? _ ⟨w.heap.size, 2, none⟩ = some (.int .i64 a.c) ∧ Below w2.heap.size w2 _ := by assumption
          have HT3 := hideP (HT2.out.below hS)
          have q3 : g < w3.heap.size := by omega
          have q4 : w2.heap.size ≤ w3.heap.size := by omega
          clear hS
          go_wp2
          go_ret2
          have HF := (HT3.out).ret2' HR.out

          exact HF
      · have hs : amtSub x.bal a = (amtDif x.bal a, true) := by unfold amtSub; rw [hf]; rfl
        have HC := hideP (fun W => specAmtSub_any x.bal a W)
        rw [hs] at HC HR
        clear hf hs
        go_wp2
        go_region_held3 (fun w' => w'.cell? ⟨b, o + k * 5 + 2, none⟩ = some (.int .i64 x.bal.p) ∧ w'.cell? ⟨b, o + k * 5 + 3, none⟩ = some (.int .i64 x.bal.r) ∧ w'.cell? ⟨b, o + k * 5 + 4, none⟩ = some (.int .i64 x.bal.c) ∧ w'.cell? ⟨w.heap.size, 0, none⟩ = some (.int .i64 a.p) ∧ w'.cell? ⟨w.heap.size, 1, none⟩ = some (.int .i64 a.r) ∧ w'.cell? ⟨w.heap.size, 2, none⟩ = some (.int .i64 a.c) ∧ Below w2.heap.size w2 w') ((first | (with_reducible exact heldC6 (by assumption) (by assumption) (Nat.le_refl _) hbw hbw hbw p0 p0 p0) | (with_reducible exact heldA6 (by assumption) (Nat.le_refl _) hbw hbw hbw p0 p0 p0) | (with_reducible exact heldAd6 (by assumption) (Nat.le_refl _) hbw hbw hbw p0 p0 p0) | (with_reducible exact heldR6 (by assumption) (by assumption) hbw hbw hbw p0 p0 p0) | (with_reducible exact heldRd6 (by assumption) (by assumption) hbw hbw hbw p0 p0 p0) | (with_reducible exact heldR6 (by assumption) (Nat.le_refl _) hbw hbw hbw p0 p0 p0) | (with_reducible exact heldRd6 (by assumption) (Nat.le_refl _) hbw hbw hbw p0 p0 p0) | ((with_reducible refine heldB6 (by assumption) ?_ hbw hbw hbw p0 p0 p0); (repeat (refine Below.setCell ?_ (by first | exact Nat.le_refl _ | (simp; done) | (simp; omega)) _)); exact Below.refl _ _) | exact held06 g3 g4 g5 a1 a2 a3)) (first | (go_at_call 82; refine (HC.out _).mono ?_; rintro e w3 ⟨rfl, hb3⟩; obtain ⟨bc3, bf3⟩ := bcell hb3; have hz3 : w2.heap.size ≤ w3.heap.size := Nat.le_trans (by first | exact Nat.le_refl _ | omega | (simp; done) | (simp; omega)) hb3.size; (try simp only [World.size_alloc, World.size_drew, World.cell?_drew, World.frozen?_drew] at bc3 bf3); have hx3 := hb3.size; (try simp only [World.size_alloc, World.size_drew, World.size_setCell] at hx3); (try have hy3 : w2.heap.size < w3.heap.size := by omega)))
        all_goals
          obtain ⟨_, _, _, _, _, _, hS⟩ : World.cell? _ ⟨b, o + k * 5 + 2, none⟩ = some (.int .i64 x.bal.p) ∧ World.cell? _ ⟨b, o + k * 5 + 3, none⟩ = some (.int .i64 x.bal.r) ∧ World.cell? _ ⟨b, o + k * 5 + 4, none⟩ = some (.int .i64 x.bal.c) ∧ World.cell? _ ⟨w.heap.size, 0, none⟩ = some (.int .i64 a.p) ∧ World.cell? _ ⟨w.heap.size, 1, none⟩ = some (.int .i64 a.r) ∧ World.cell? _ ⟨w.heap.size, 2, none⟩ = some (.int .i64 a.c) ∧ Below w2.heap.size w2 _ := by assumption
          have HT3 := hideP (HT2.out.below hS)
          have q3 : g < w3.heap.size := by omega
          have q4 : w2.heap.size ≤ w3.heap.size := by omega
          clear hS
          go_wp2
          go_ret2
          have HF := (HT3.out.bal hg0 Hx.out).ret2' HR.out
          (try simp only [World.setCell_alloc_past, World.size_setCell, q3] at HF)
          exact HF


end Go.Proofs.Ytabbncoihmhocaa

namespace Go.Proofs.Ytabbncoihmhocaa
open Go.RowKit

/-- A tree of five, own memory, and a bit. -/
def TreeMade (w : World) (n : Nat) (e : Ending) (w' : World) : Prop := ∃ (v : Value) (t : List Res) (b : Bool), e = .returned (.tuple #[v, .bool b]) ∧ t.length = n ∧ w'.ownsRow w.heap.size 57 5 v n (t.flatMap Res.enc) ∧ Below w.heap.size w w'
def TreeMade3 (w : World) (n : Nat) (e : Ending) (w' : World) : Prop := ∃ (v : Value) (t : List Res) (k : Int) (b : Bool), e = .returned (.tuple #[v, .int .i64 k, .bool b]) ∧ t.length = n ∧ w'.ownsRow w.heap.size 57 5 v n (t.flatMap Res.enc) ∧ Below w.heap.size w w'
theorem made_five : (madeCells #[.bool false, .int .i64 0, .int .i64 0, .int .i64 0, .int .i64 0] 25).toList = (List.replicate 5 zeroRes).flatMap Res.enc := by
  unfold madeCells
  rw [Array.toList_map, Array.toList_range]
  rfl
theorem Acc.row5 {w0 w : World} {E : TypeId} {g c n k : Nat} {t : List Res} {x y : Res} (h : Acc w0 E 5 n (t.flatMap Res.enc) (.slice (some ⟨g, 0, none⟩) n c) w) (hg : w0.heap.size ≤ g) (hx : t[k]? = some x) :
    Acc w0 E 5 n ((t.set k y).flatMap Res.enc) (.slice (some ⟨g, 0, none⟩) n c) (setCells w g (k * 5) y.enc) := by
  have hk : k < t.length := (List.getElem?_eq_some_iff.1 hx).1
  have h0 := h.setField (x' := ⟨y.live, x.par, x.bal⟩) (j := 0) (u := .bool y.live) Res.enc_len hg hx (by decide) rfl
  have h1 := h0.setField (x := ⟨y.live, x.par, x.bal⟩) (x' := ⟨y.live, y.par, x.bal⟩) (k := k) (j := 1) (u := .int .i64 y.par) Res.enc_len hg (by rw [List.getElem?_set_self hk]) (by decide) rfl
  rw [List.set_set] at h1
  have h2 := h1.bal (x := ⟨y.live, y.par, x.bal⟩) (b := y.bal) hg (by rw [List.getElem?_set_self hk])
  rw [List.set_set] at h2
  have e : ({ live := y.live, par := y.par, bal := y.bal } : Res) = y := rfl
  dsimp only at h2
  rw [e] at h2
  exact h2
set_option maxRecDepth 100000 in
set_option maxHeartbeats 4000000 in
theorem treeNew_any (x : Amt) (hx : amtOk x = true) (w : World) : Calls Try.prog 70 #[.agg #[.int .i64 (x).p, .int .i64 (x).r, .int .i64 (x).c]] w (TreeMade w 5) := by
  obtain ⟨i0, hi, hz0, hz1, hz2⟩ := info_parts Try.infoRes
  have HX := hideP hx
  clear hx
  go_enter Try.func70, Try.ntmps70
  go_wp2_with fail
  refine (specAmtOk_any x _).mono ?_
  rintro e w1 ⟨rfl, hb1⟩
  rw [HX.out]
  have HB := hideP ((below_a1 w _).trans (hb1.mono (below_a1 w _).size))
  obtain ⟨bc1, bf1⟩ := bcell hb1
  have hz := hb1.size
  simp only [World.size_alloc] at bc1 bf1 hz
  have a0 : w1.cell? ⟨w.heap.size, 0, none⟩ = some (.int .i64 x.p) := by rw [bc1 _ _ (by omega)]; simp
  have a1 : w1.cell? ⟨w.heap.size, 1, none⟩ = some (.int .i64 x.r) := by rw [bc1 _ _ (by omega)]; simp
  have a2 : w1.cell? ⟨w.heap.size, 2, none⟩ = some (.int .i64 x.c) := by rw [bc1 _ _ (by omega)]; simp
  clear bc1 bf1 hb1
  go_wp2_with (at_make; refine wpList_make_full _ rfl _ _ 24 rfl w1.heap.size 57 i0 (.agg #[.bool false, .int .i64 0, .int .i64 0, .int .i64 0, .int .i64 0]) 5 Try.underlying24 hi hz0 hz1 .i64 .i64 _ _ 5 rfl rfl rfl rfl ?c1 ?c2 (Nat.le_refl _) ?_)
  case c1 => rw [hz2]; omega
  case c2 => unfold maxLen; omega
  intro w2 hown hg
  have hb2 := (Below.refl w1.heap.size w1).grown hg (Nat.le_refl _) (by simp)
  rw [made_five] at hown
  have HA : Hid (Acc w 57 5 5 ((List.replicate 5 zeroRes).flatMap Res.enc) (.slice (some ⟨w1.heap.size, 0, none⟩) 5 5) w2) := hideP (Acc.of HB.out hown hb2)
  obtain ⟨bc2, bf2⟩ := bcell hb2
  have a0 : w2.cell? ⟨w.heap.size, 0, none⟩ = some (.int .i64 x.p) := by rw [bc2 _ _ (by omega)]; exact a0
  have a1 : w2.cell? ⟨w.heap.size, 1, none⟩ = some (.int .i64 x.r) := by rw [bc2 _ _ (by omega)]; exact a1
  have a2 : w2.cell? ⟨w.heap.size, 2, none⟩ = some (.int .i64 x.c) := by rw [bc2 _ _ (by omega)]; exact a2
  obtain ⟨⟨y0, c0⟩, f0⟩ := owns_at HA.out.1 (j := 0) (by omega)
  obtain ⟨⟨y1, c1⟩, f1⟩ := owns_at HA.out.1 (j := 1) (by omega)
  obtain ⟨⟨y2, c2⟩, f2⟩ := owns_at HA.out.1 (j := 2) (by omega)
  obtain ⟨⟨y3, c3⟩, f3⟩ := owns_at HA.out.1 (j := 3) (by omega)
  obtain ⟨⟨y4, c4⟩, f4⟩ := owns_at HA.out.1 (j := 4) (by omega)
  have HN := hideP (HA.out.row5 (k := 0) (x := zeroRes) (y := ⟨true, -1, x⟩) (by omega) rfl)
  clear hown hg hb2 bc2 bf2
  go_wp2
  go_ret2
  exact ⟨_, _, true, rfl, by simp, HN.out.1, HN.out.2⟩
set_option maxRecDepth 100000 in
set_option maxHeartbeats 4000000 in
theorem treeSplit_any (ad : Option Addr) (n cap : Nat) (t : List Res) (i : Int) (a : Amt) (hn : n = t.length) (hl : n ≤ 1048576) (w : World) (h : Rd w ad (t.flatMap Res.enc)) :
    Calls Try.prog 73 #[.slice ad n cap, .int .i64 i, .agg #[.int .i64 (a).p, .int .i64 (a).r, .int .i64 (a).c]] w (TreeMade3 w n) := by
  have Hn := Lib.hid hn
  have HR := hideP h
  clear hn h
  go_enter Try.func73, Try.ntmps73
  go_wp2_with fail
  refine (specTreePay_any _ _ _ t i a Hn.out hl _ (HR.out.below (below_a1 _ _))).mono ?_
  rintro e w1 ⟨v1, rfl, ho1, hb1⟩
  have HB1 := hideP ((below_a1 w _).trans (hb1.mono (below_a1 w _).size))
  have HA := hideP (Acc.of (below_a1 w _) ho1 hb1)
  obtain ⟨bc1, bf1⟩ := bcell hb1
  have hz := hb1.size
  simp only [World.size_alloc] at bc1 bf1 hz
  have a0 : w1.cell? ⟨w.heap.size, 0, none⟩ = some (.int .i64 a.p) := by rw [bc1 _ _ (by omega)]; simp
  have a1 : w1.cell? ⟨w.heap.size, 1, none⟩ = some (.int .i64 a.r) := by rw [bc1 _ _ (by omega)]; simp
  have a2 : w1.cell? ⟨w.heap.size, 2, none⟩ = some (.int .i64 a.c) := by rw [bc1 _ _ (by omega)]; simp
  have hpl := pay_len t i a
  generalize (payT t i a).1 = x at HA hpl ⊢
  generalize (payT t i a).2 = ok at ⊢
  have Hxl : Hid (n = x.length) := hideP (by rw [hpl]; exact Hn.out)
  clear ho1 hb1 bc1 bf1 hpl
  cases ok
  · go_wp2_with fail
    refine (specCopyTree_any _ _ _ t Hn.out hl _ (HR.out.below HB1.out)).mono ?_
    rintro e w2 ⟨v2, rfl, ho2, hb2⟩
    have HC := hideP (Acc.of HB1.out ho2 hb2)
    clear ho2 hb2
    go_wp2
    go_ret3
    exact ⟨_, t, 0, false, rfl, Hn.out.symm, HC.out.1, HC.out.2⟩
  obtain ⟨xa, xc, rfl, _⟩ := owns_slice HA.out.1
  go_wp2
  go_loopg [11] (n + 1) (fun gk iv wr => ∃ (k : Nat), n < gk + k ∧ k ≤ n ∧ iv = .int .i64 (k : Int) ∧ w1 = wr)
  case atStart => exact ⟨0, by omega, by omega, rfl, rfl⟩
  case round =>
    obtain ⟨k, hgk, hk, rfl, rfl⟩ := hrel
    by_cases hlt : k < n
    · obtain ⟨y, hy⟩ := some_at (l := x) (k := k) (by have := Hxl.out; omega)
      obtain ⟨g, c, e, hg0, hg1⟩ := HA.out.block (by omega)
      cases e
      have q0 := (HA.out.cell Res.enc_len hy (j := 0) rfl).1
      have k0 : (0 : Int) ≤ (k : Int) := by omega
      have k1 : (k : Int) < (n : Int) := by omega
      simp only [Nat.add_zero] at q0
      have HY := hideP hy
      clear hy
      obtain ⟨yl, yp, yb⟩ := y
      dsimp only at q0
      cases yl
      · obtain ⟨_, f0⟩ := owns_at HA.out.1 (j := k * 5) (by omega)
        obtain ⟨⟨y1, c1⟩, f1⟩ := owns_at HA.out.1 (j := k * 5 + 1) (by omega)
        obtain ⟨⟨y2, c2⟩, f2⟩ := owns_at HA.out.1 (j := k * 5 + 2) (by omega)
        obtain ⟨⟨y3, c3⟩, f3⟩ := owns_at HA.out.1 (j := k * 5 + 3) (by omega)
        obtain ⟨⟨y4, c4⟩, f4⟩ := owns_at HA.out.1 (j := k * 5 + 4) (by omega)
        have HN := hideP (HA.out.row5 (y := ⟨true, i, a⟩) hg0 HY.out)
        have HL : Hid ((x.set k ⟨true, i, a⟩).length = n) := hideP (by rw [List.length_set]; exact Hxl.out.symm)
        go_wp2
        go_ret3
        exact ⟨_, _, (k : Int), true, rfl, HL.out, HN.out.1, HN.out.2⟩
      · go_wp2
        go_roundg (gk - 1)
        case measure => omega
        case rel => exact ⟨k + 1, by omega, by omega, by go_num, rfl⟩
    · have d1 : ¬ ((k : Int) < (n : Int)) := by omega
      go_wp2_with fail
      refine (specCopyTree_any _ _ _ t Hn.out hl _ (HR.out.below HB1.out)).mono ?_
      rintro e w2 ⟨v2, rfl, ho2, hb2⟩
      have HC := hideP (Acc.of HB1.out ho2 hb2)
      clear ho2 hb2
      go_wp2
      go_ret3
      exact ⟨_, t, 0, false, rfl, Hn.out.symm, HC.out.1, HC.out.2⟩

end Go.Proofs.Ytabbncoihmhocaa

namespace Go.Proofs.Ytabbncoihmhocaa
open Go.RowKit

theorem up_of_ok {t : List Res} (h : treeOk t = true) : UpOk t := by
  rw [← treeOkS_eq] at h
  unfold treeOkS at h
  simp only [Bool.and_eq_true] at h
  exact (s1_up (head_get h.1).1 h.2.1).1
theorem name_world {B : Nat} {w W : World} (_h : Below B w W) : ∃ W', W' = W := ⟨W, rfl⟩
set_option maxRecDepth 100000 in
set_option maxHeartbeats 4000000 in
theorem treeDrop_any (ad : Option Addr) (n cap : Nat) (t : List Res) (i : Int) (hn : n = t.length) (hl : n ≤ 1048576) (w : World) (h : Rd w ad (t.flatMap Res.enc)) :
    Calls Try.prog 72 #[.slice ad n cap, .int .i64 i] w (TreeMade w n) := by
  have Hn := Lib.hid hn
  have HR := hideP h
  clear hn h
  go_enter Try.func72, Try.ntmps72
  go_wp2_with fail
  refine (specCopyTree_any _ _ _ t Hn.out hl _ HR.out).mono ?_
  rintro e w1 ⟨v1, rfl, ho1, hb1⟩
  have HB1 := hideP hb1
  have HA1 : Hid (Acc w 57 5 n (t.flatMap Res.enc) v1 w1) := hideP ⟨ho1, hb1⟩
  clear ho1 hb1
  go_wp2_with fail
  refine (l6Live_any _ _ _ t i Hn.out hl _ (HR.out.below HB1.out)).mono ?_
  rintro e w2 ⟨rfl, hb2⟩
  have HB2 := hideP (HB1.out.trans (hb2.mono HB1.out.size))
  have HA2 := hideP (HA1.out.below hb2)
  clear hb2 HA1 HB1
  cases hok : (treeOk t && isLiveB t i)
  · go_wp2
    go_ret2
    exact ⟨_, t, false, rfl, Hn.out.symm, HA2.out.1, HA2.out.2⟩
  by_cases hi0 : i = 0
  · have d0 : (i == 0) = true := by simp [hi0]
    clear hi0
    go_wp2
    go_ret2
    exact ⟨_, t, false, rfl, Hn.out.symm, HA2.out.1, HA2.out.2⟩
  have d0 : (i == 0) = false := by simp [hi0]
  have ht := (Bool.and_eq_true_iff.1 hok).1
  have H5 := Lib.hid (tree_parts ht).1
  have hn5 : n = 5 := by have := Hn.out; have := H5.out; omega
  subst hn5
  obtain ⟨k, x, rfl, hk, hx, hlx, hr⟩ := live_get H5.out (Bool.and_eq_true_iff.1 hok).2
  have hup := up_of_ok ht (k : Int) (by omega) (by omega) (by rw [hr]; exact hlx)
  rw [hr] at hup
  obtain ⟨hu0, hu4, _⟩ := hup
  obtain ⟨u, hu⟩ := Int.eq_ofNat_of_zero_le hu0
  obtain ⟨y, hy⟩ := some_at (l := t) (k := u) (by have := H5.out; omega)
  obtain ⟨b, o, rfl, hbw, g1, g2, g3, g4, g5⟩ := (HR.out.below HB2.out).rowRes hx
  obtain ⟨b', o', e', _, j1, j2, j3, j4, j5⟩ := (HR.out.below HB2.out).rowRes hy
  cases e'
  rw [hu] at g2
  obtain ⟨g, c, rfl, hg0, hg1⟩ := HA2.out.block (by decide)
  have HX := hideP hx
  have HY := hideP hy
  have k0 : (0 : Int) ≤ (k : Int) := by omega
  have k5 : (k : Int) < 5 := by omega
  have u0 : (0 : Int) ≤ (u : Int) := by omega
  have u5 : (u : Int) < 5 := by omega
  obtain ⟨r, ok, hrr⟩ : ∃ r ok, amtAddB y.bal x.bal = (r, ok) := ⟨_, _, rfl⟩
  have HADD := hideP (fun W => specAmtAdd_any y.bal x.bal W)
  rw [hrr] at HADD
  have hgn : g ≠ w2.heap.size := by omega
  clear hok hi0 ht hr hx hy hlx hu hu0 hu4 hrr
  go_wp2
  go_region_held3 (fun w' => w'.cell? ⟨b, o + u * 5 + 2, none⟩ = some (.int .i64 y.bal.p) ∧ w'.cell? ⟨b, o + u * 5 + 3, none⟩ = some (.int .i64 y.bal.r) ∧ w'.cell? ⟨b, o + u * 5 + 4, none⟩ = some (.int .i64 y.bal.c) ∧ w'.cell? ⟨b, o + k * 5 + 2, none⟩ = some (.int .i64 x.bal.p) ∧ w'.cell? ⟨b, o + k * 5 + 3, none⟩ = some (.int .i64 x.bal.r) ∧ w'.cell? ⟨b, o + k * 5 + 4, none⟩ = some (.int .i64 x.bal.c) ∧ Below w2.heap.size w2 w') ((first | (with_reducible exact heldC6 (by assumption) (by assumption) (Nat.le_refl _) hbw hbw hbw hbw hbw hbw) | (with_reducible exact heldA6 (by assumption) (Nat.le_refl _) hbw hbw hbw hbw hbw hbw) | (with_reducible exact heldAd6 (by assumption) (Nat.le_refl _) hbw hbw hbw hbw hbw hbw) | (with_reducible exact heldR6 (by assumption) (by assumption) hbw hbw hbw hbw hbw hbw) | (with_reducible exact heldRd6 (by assumption) (by assumption) hbw hbw hbw hbw hbw hbw) | (with_reducible exact heldR6 (by assumption) (Nat.le_refl _) hbw hbw hbw hbw hbw hbw) | (with_reducible exact heldRd6 (by assumption) (Nat.le_refl _) hbw hbw hbw hbw hbw hbw) | ((with_reducible refine heldB6 (by assumption) ?_ hbw hbw hbw hbw hbw hbw); (repeat (refine Below.setCell ?_ (by first | exact Nat.le_refl _ | (simp; done) | (simp; omega)) _)); exact Below.refl _ _) | exact held06 j3 j4 j5 g3 g4 g5)) (first | (go_at_call 80; refine (HADD.out _).mono ?_; rintro e w6 ⟨rfl, hb6⟩; obtain ⟨bc6, bf6⟩ := bcell hb6; have hz6 : w2.heap.size ≤ w6.heap.size := Nat.le_trans (by first | exact Nat.le_refl _ | omega | (simp; done) | (simp; omega)) hb6.size; (try simp only [World.size_alloc, World.size_drew, World.cell?_drew, World.frozen?_drew] at bc6 bf6); have hx6 := hb6.size; (try simp only [World.size_alloc, World.size_drew, World.size_setCell] at hx6); (try have hy6 : w2.heap.size < w6.heap.size := by omega)))
  · obtain ⟨_, _, _, _, _, _, hS9⟩ : World.cell? _ ⟨b, o + u * 5 + 2, none⟩ = some (.int .i64 y.bal.p) ∧ World.cell? _ ⟨b, o + u * 5 + 3, none⟩ = some (.int .i64 y.bal.r) ∧ World.cell? _ ⟨b, o + u * 5 + 4, none⟩ = some (.int .i64 y.bal.c) ∧ World.cell? _ ⟨b, o + k * 5 + 2, none⟩ = some (.int .i64 x.bal.p) ∧ World.cell? _ ⟨b, o + k * 5 + 3, none⟩ = some (.int .i64 x.bal.r) ∧ World.cell? _ ⟨b, o + k * 5 + 4, none⟩ = some (.int .i64 x.bal.c) ∧ Below w2.heap.size w2 _ := by assumption
    obtain ⟨W, hW⟩ := name_world hS9
    have e0 : W.cell? ⟨w6.heap.size, 0, none⟩ = some (.int .i64 r.p) := by rw [hW]; simp
    have e1 : W.cell? ⟨w6.heap.size, 1, none⟩ = some (.int .i64 r.r) := by rw [hW]; simp
    have e2 : W.cell? ⟨w6.heap.size, 2, none⟩ = some (.int .i64 r.c) := by rw [hW]; simp
    rw [← hW] at hS9 ⊢
    have HT := hideP (HA2.out.below hS9)
    have HP := Lib.hid hg0
    clear hW hS9 bc6 bf6 g1 g2 g3 g4 g5 j1 j2 j3 j4 j5
    try clear hHeld
    try clear hb6
    obtain ⟨⟨z0, d0⟩, f0⟩ := owns_at HT.out.1 (j := u * 5 + 2) (by omega)
    obtain ⟨⟨z1, d1⟩, f1⟩ := owns_at HT.out.1 (j := u * 5 + 3) (by omega)
    obtain ⟨⟨z2, d2⟩, f2⟩ := owns_at HT.out.1 (j := u * 5 + 4) (by omega)
    have HT1 := hideP (HT.out.bal HP.out HY.out (b := r))
    have L1 : Hid ((t.set u ⟨y.live, y.par, r⟩).length = 5) := hideP (by rw [List.length_set]; exact H5.out)
    go_upto_region 7 with fail
    obtain ⟨W1, hW1⟩ : ∃ W1, W1 = ((W.setCell ⟨g, u * 5 + 2, none⟩ (.int .i64 r.p)).setCell ⟨g, u * 5 + 3, none⟩ (.int .i64 r.r)).setCell ⟨g, u * 5 + 4, none⟩ (.int .i64 r.c) := ⟨_, rfl⟩
    rw [← hW1]
    have HT1 : Hid (Acc w 57 5 5 ((t.set u ⟨y.live, y.par, r⟩).flatMap Res.enc) (.slice (some ⟨g, 0, none⟩) 5 c) W1) := hideP (by rw [hW1]; exact HT1.out)
    generalize t.set u ⟨y.live, y.par, r⟩ = t1 at HT1 L1
    clear hW1 e0 e1 e2 d0 d1 d2 f0 f1 f2 HT
    obtain ⟨x1, hx1⟩ := some_at (l := t1) (k := k) (by have := L1.out; omega)
    obtain ⟨⟨y0, c0⟩, f0⟩ := owns_at HT1.out.1 (j := k * 5) (by omega)
    obtain ⟨⟨y1, c1⟩, f1⟩ := owns_at HT1.out.1 (j := k * 5 + 1) (by omega)
    obtain ⟨⟨y2, c2⟩, f2⟩ := owns_at HT1.out.1 (j := k * 5 + 2) (by omega)
    obtain ⟨⟨y3, c3⟩, f3⟩ := owns_at HT1.out.1 (j := k * 5 + 3) (by omega)
    obtain ⟨⟨y4, c4⟩, f4⟩ := owns_at HT1.out.1 (j := k * 5 + 4) (by omega)
    have HT2 := hideP (HT1.out.row5 (y := zeroRes) HP.out hx1)
    have L2 : Hid ((t1.set k zeroRes).length = 5) := hideP (by rw [List.length_set]; exact L1.out)
    clear hx1
    go_wp2
    go_loopg [10] 6 (fun gk iv wr => ∃ (m : Nat) (t' : List Res), 5 < gk + m ∧ m ≤ 5 ∧ iv = .int .i64 (m : Int) ∧ Hid (t'.length = 5) ∧ Hid (Acc w 57 5 5 (t'.flatMap Res.enc) (.slice (some ⟨g, 0, none⟩) 5 c) wr))
    case atStart => exact ⟨0, _, by omega, by omega, rfl, L2, HT2⟩
    case round =>
      clear HT1 HT2 L1 L2
      obtain ⟨m, t', hgk, hm, rfl, hl5, HA⟩ := hrel
      by_cases hlt : m < 5
      · obtain ⟨z, hz⟩ := some_at (l := t') (k := m) (by have := hl5.out; omega)
        have q0 := (HA.out.cell Res.enc_len hz (j := 0) rfl).1
        obtain ⟨q1, f1'⟩ := HA.out.cell Res.enc_len hz (j := 1) rfl
        simp only [Nat.add_zero] at q0
        have m0 : (0 : Int) ≤ (m : Int) := by omega
        have m5 : (m : Int) < 5 := by omega
        have HZ := hideP hz
        clear hz
        obtain ⟨zl, zp, zb⟩ := z
        dsimp only at q0 q1
        cases zl
        · go_wp2
          go_roundg (gk - 1)
          case measure => omega
          case rel => exact ⟨m + 1, t', by omega, by omega, by go_num, hl5, HA⟩
        · by_cases hzp : zp = (k : Int)
          · have dz : (zp == (k : Int)) = true := by simp [hzp]
            have HN := hideP (HA.out.setField (x' := ⟨true, (u : Int), zb⟩) (j := 1) (u := .int .i64 (u : Int)) Res.enc_len HP.out HZ.out (by decide) rfl)
            have HL : Hid ((t'.set m ⟨true, (u : Int), zb⟩).length = 5) := hideP (by rw [List.length_set]; exact hl5.out)
            clear hzp
            go_wp2
            go_roundg (gk - 1)
            case measure => omega
            case rel => exact ⟨m + 1, _, by omega, by omega, by go_num, HL, HN⟩
          · have dz : (zp == (k : Int)) = false := by simp [hzp]
            clear hzp
            go_wp2
            go_roundg (gk - 1)
            case measure => omega
            case rel => exact ⟨m + 1, t', by omega, by omega, by go_num, hl5, HA⟩
      · have dm : ¬ ((m : Int) < 5) := by omega
        go_wp2
        go_ret2
        exact ⟨_, t', true, rfl, hl5.out, HA.out.1, HA.out.2⟩
  · obtain ⟨_, _, _, _, _, _, hS9⟩ : World.cell? _ ⟨b, o + u * 5 + 2, none⟩ = some (.int .i64 y.bal.p) ∧ World.cell? _ ⟨b, o + u * 5 + 3, none⟩ = some (.int .i64 y.bal.r) ∧ World.cell? _ ⟨b, o + u * 5 + 4, none⟩ = some (.int .i64 y.bal.c) ∧ World.cell? _ ⟨b, o + k * 5 + 2, none⟩ = some (.int .i64 x.bal.p) ∧ World.cell? _ ⟨b, o + k * 5 + 3, none⟩ = some (.int .i64 x.bal.r) ∧ World.cell? _ ⟨b, o + k * 5 + 4, none⟩ = some (.int .i64 x.bal.c) ∧ Below w2.heap.size w2 _ := by assumption
    obtain ⟨W, hW⟩ := name_world hS9
    have y0 : w6.cell? ⟨w2.heap.size, 0, none⟩ = some (.int .i64 0) := (bc6 _ _ (by omega)).trans (by first | (simp; done) | exact World.cell?_alloc_at _ _ _ _ rfl)
    have y1 : w6.cell? ⟨w2.heap.size, 1, none⟩ = some (.int .i64 0) := (bc6 _ _ (by omega)).trans (by first | (simp; done) | exact World.cell?_alloc_at _ _ _ _ rfl)
    have y2 : w6.cell? ⟨w2.heap.size, 2, none⟩ = some (.int .i64 0) := (bc6 _ _ (by omega)).trans (by first | (simp; done) | exact World.cell?_alloc_at _ _ _ _ rfl)
    have e0 : W.cell? ⟨w2.heap.size, 0, none⟩ = some (.int .i64 r.p) := by rw [hW]; simp [go_sem, y0]
    have e1 : W.cell? ⟨w2.heap.size, 1, none⟩ = some (.int .i64 r.r) := by rw [hW]; simp [go_sem, y1]
    have e2 : W.cell? ⟨w2.heap.size, 2, none⟩ = some (.int .i64 r.c) := by rw [hW]; simp [go_sem, y2]
    clear y0 y1 y2
    rw [← hW] at hS9 ⊢
    have HT := hideP (HA2.out.below hS9)
    have HP := Lib.hid hg0
    clear hW hS9 bc6 bf6 g1 g2 g3 g4 g5 j1 j2 j3 j4 j5
    try clear hHeld
    try clear hb6
    obtain ⟨⟨z0, d0⟩, f0⟩ := owns_at HT.out.1 (j := u * 5 + 2) (by omega)
    obtain ⟨⟨z1, d1⟩, f1⟩ := owns_at HT.out.1 (j := u * 5 + 3) (by omega)
    obtain ⟨⟨z2, d2⟩, f2⟩ := owns_at HT.out.1 (j := u * 5 + 4) (by omega)
    have HT1 := hideP (HT.out.bal HP.out HY.out (b := r))
    have L1 : Hid ((t.set u ⟨y.live, y.par, r⟩).length = 5) := hideP (by rw [List.length_set]; exact H5.out)
    go_upto_region 7 with fail
    obtain ⟨W1, hW1⟩ : ∃ W1, W1 = ((W.setCell ⟨g, u * 5 + 2, none⟩ (.int .i64 r.p)).setCell ⟨g, u * 5 + 3, none⟩ (.int .i64 r.r)).setCell ⟨g, u * 5 + 4, none⟩ (.int .i64 r.c) := ⟨_, rfl⟩
    rw [← hW1]
    have HT1 : Hid (Acc w 57 5 5 ((t.set u ⟨y.live, y.par, r⟩).flatMap Res.enc) (.slice (some ⟨g, 0, none⟩) 5 c) W1) := hideP (by rw [hW1]; exact HT1.out)
    generalize t.set u ⟨y.live, y.par, r⟩ = t1 at HT1 L1
    clear hW1 e0 e1 e2 d0 d1 d2 f0 f1 f2 HT
    obtain ⟨x1, hx1⟩ := some_at (l := t1) (k := k) (by have := L1.out; omega)
    obtain ⟨⟨y0, c0⟩, f0⟩ := owns_at HT1.out.1 (j := k * 5) (by omega)
    obtain ⟨⟨y1, c1⟩, f1⟩ := owns_at HT1.out.1 (j := k * 5 + 1) (by omega)
    obtain ⟨⟨y2, c2⟩, f2⟩ := owns_at HT1.out.1 (j := k * 5 + 2) (by omega)
    obtain ⟨⟨y3, c3⟩, f3⟩ := owns_at HT1.out.1 (j := k * 5 + 3) (by omega)
    obtain ⟨⟨y4, c4⟩, f4⟩ := owns_at HT1.out.1 (j := k * 5 + 4) (by omega)
    have HT2 := hideP (HT1.out.row5 (y := zeroRes) HP.out hx1)
    have L2 : Hid ((t1.set k zeroRes).length = 5) := hideP (by rw [List.length_set]; exact L1.out)
    clear hx1
    go_wp2
    go_loopg [10] 6 (fun gk iv wr => ∃ (m : Nat) (t' : List Res), 5 < gk + m ∧ m ≤ 5 ∧ iv = .int .i64 (m : Int) ∧ Hid (t'.length = 5) ∧ Hid (Acc w 57 5 5 (t'.flatMap Res.enc) (.slice (some ⟨g, 0, none⟩) 5 c) wr))
    case atStart => exact ⟨0, _, by omega, by omega, rfl, L2, HT2⟩
    case round =>
      clear HT1 HT2 L1 L2
      obtain ⟨m, t', hgk, hm, rfl, hl5, HA⟩ := hrel
      by_cases hlt : m < 5
      · obtain ⟨z, hz⟩ := some_at (l := t') (k := m) (by have := hl5.out; omega)
        have q0 := (HA.out.cell Res.enc_len hz (j := 0) rfl).1
        obtain ⟨q1, f1'⟩ := HA.out.cell Res.enc_len hz (j := 1) rfl
        simp only [Nat.add_zero] at q0
        have m0 : (0 : Int) ≤ (m : Int) := by omega
        have m5 : (m : Int) < 5 := by omega
        have HZ := hideP hz
        clear hz
        obtain ⟨zl, zp, zb⟩ := z
        dsimp only at q0 q1
        cases zl
        · go_wp2
          go_roundg (gk - 1)
          case measure => omega
          case rel => exact ⟨m + 1, t', by omega, by omega, by go_num, hl5, HA⟩
        · by_cases hzp : zp = (k : Int)
          · have dz : (zp == (k : Int)) = true := by simp [hzp]
            have HN := hideP (HA.out.setField (x' := ⟨true, (u : Int), zb⟩) (j := 1) (u := .int .i64 (u : Int)) Res.enc_len HP.out HZ.out (by decide) rfl)
            have HL : Hid ((t'.set m ⟨true, (u : Int), zb⟩).length = 5) := hideP (by rw [List.length_set]; exact hl5.out)
            clear hzp
            go_wp2
            go_roundg (gk - 1)
            case measure => omega
            case rel => exact ⟨m + 1, _, by omega, by omega, by go_num, HL, HN⟩
          · have dz : (zp == (k : Int)) = false := by simp [hzp]
            clear hzp
            go_wp2
            go_roundg (gk - 1)
            case measure => omega
            case rel => exact ⟨m + 1, t', by omega, by omega, by go_num, hl5, HA⟩
      · have dm : ¬ ((m : Int) < 5) := by omega
        go_wp2
        go_ret2
        exact ⟨_, t', true, rfl, hl5.out, HA.out.1, HA.out.2⟩

end Go.Proofs.Ytabbncoihmhocaa

namespace Go.Proofs.Ytabbncoihmhocaa
open Go.RowKit

set_option maxRecDepth 100000 in
set_option maxHeartbeats 4000000 in
theorem l5Amt_any {W w : World} {cb : Nat} (h : DE W cb w) : Calls Try.prog 71 #[.pointer (some ⟨cb, 0, none⟩)] w fun e w' => ∃ x : Amt, e = .returned (.agg #[.int .i64 (x).p, .int .i64 (x).r, .int .i64 (x).c]) ∧ amtOk x = true ∧ Drew W cb w w' := by
  have hW := h.lt.2
  have HD := hideP ((Drew.refl h).alloc (.cells #[.int .i64 0, .int .i64 0, .int .i64 0] 55))
  have HB := hideP (Blk.new w #[.int .i64 0, .int .i64 0, .int .i64 0] 55)
  clear h
  go_enter Try.func71, Try.ntmps71
  go_wp2_with fail
  refine (de_below 40 (by omega) (by omega) HD.out.1).mono ?_
  rintro e w1 ⟨x, rfl, x0, x1, hd⟩
  have HB := hideP (hd.blk HB.out hW)
  have HD := hideP (HD.out.trans hd)
  clear hd
  go_wp2_with fail
  refine (de_big 400 (by omega) (by omega) HD.out.1).mono ?_
  rintro e w2 ⟨y, rfl, y0, y1, hd⟩
  have HB := hideP (hd.blk HB.out hW)
  have HD := hideP (HD.out.trans hd)
  clear hd
  go_wp2_with fail
  refine (de_below 60 (by omega) (by omega) HD.out.1).mono ?_
  rintro e w3 ⟨z, rfl, z0, z1, hd⟩
  have HB := hideP (hd.blk HB.out hW)
  have HD := hideP (HD.out.trans hd)
  clear hd
  have c0 : w3.cell? ⟨w.heap.size, 0, none⟩ = some (.int .i64 0) := (HB.out.cell 0).trans rfl
  have c1 : w3.cell? ⟨w.heap.size, 1, none⟩ = some (.int .i64 0) := (HB.out.cell 1).trans rfl
  have c2 : w3.cell? ⟨w.heap.size, 2, none⟩ = some (.int .i64 0) := (HB.out.cell 2).trans rfl
  have f0 : w3.frozen? ⟨w.heap.size, 0, none⟩ = false := HB.out.frozen 0
  have f1 : w3.frozen? ⟨w.heap.size, 1, none⟩ = false := HB.out.frozen 1
  have f2 : w3.frozen? ⟨w.heap.size, 2, none⟩ = false := HB.out.frozen 2
  have HX : Hid (amtOk ⟨x, y, z⟩ = true) := hideP (amtOk_iff.2 (by dsimp only; omega))
  have HF := hideP (((HD.out.set (g := w.heap.size) (i := 0) (v := .int .i64 x) hW (Nat.le_refl _)).set (g := w.heap.size) (i := 1) (v := .int .i64 y) hW (Nat.le_refl _)).set (g := w.heap.size) (i := 2) (v := .int .i64 z) hW (Nat.le_refl _))
  clear HB
  go_wp2
  exact bodyPost_ret (v := .agg #[.int .i64 x, .int .i64 y, .int .i64 z]) (by simp [results, Try.results71, go_sem, c0, c1, c2]) rfl ⟨⟨x, y, z⟩, rfl, HX.out, HF.out⟩
/-- A tree drawn. -/
def TreeDrawn (W : World) (cb : Nat) (m : Nat) (e : Ending) (w' : World) : Prop := ∃ (v : Value) (t : List Res), e = .returned v ∧ t.length ≤ 5 ∧ m ≤ t.length ∧ DAcc W cb 57 5 t.length (t.flatMap Res.enc) v w'
set_option maxRecDepth 100000 in
set_option maxHeartbeats 4000000 in
theorem l6Tree_any {W w : World} {cb : Nat} (h : DW W cb w) : Calls Try.prog 45 #[.pointer (some ⟨cb, 0, none⟩)] w (TreeDrawn W cb 5) := by
  have H0 := Lib.hid h
  clear h
  go_enter Try.func45, Try.ntmps45
  go_wp2_with fail
  refine (l5Amt_any H0.out.de).mono ?_
  rintro e w1 ⟨x, rfl, hx, hd⟩
  have H1 := Lib.hid (H0.out.drew hd)
  have HX := hideP hx
  clear hd hx
  go_wp2_with fail
  refine (treeNew_any x HX.out _).mono ?_
  rintro e w2 ⟨v, t, b, rfl, ht, ho, hb⟩
  have HL := hideP ht
  have H2 : Hid (DAcc W cb 57 5 5 (t.flatMap Res.enc) v w2) := hideP (DAcc.of H1.out ho hb)
  clear ho hb ht
  go_wp2_with fail
  refine (de_below 7 (by omega) (by omega) H2.out.de).mono ?_
  rintro e w3 ⟨y, rfl, y0, y1, hd⟩
  have H3 := hideP (H2.out.drew hd)
  clear hd H2
  go_wp2
  go_loopg [3, 5] 8 (fun gk v iv wr => ∃ (t : List Res) (y : Int), y < gk ∧ 0 ≤ y ∧ y ≤ 6 ∧ iv = .int .i64 y ∧ Hid (t.length = 5) ∧ Hid (DAcc W cb 57 5 5 (t.flatMap Res.enc) v wr))
  case atStart => exact ⟨t, y, by omega, by omega, by omega, rfl, HL, H3⟩
  case round =>
    clear H3 HL y0 y1 H1 H0
    obtain ⟨t, y, hgk, y0, y1, rfl, HL, HA⟩ := hrel
    by_cases hp : 0 < y
    · obtain ⟨sa, sc, rfl, _⟩ := HA.out.slice
      go_wp2_with fail
      refine (de_below 5 (by omega) (by omega) HA.out.de).mono ?_
      rintro e w4 ⟨k, rfl, k0, k1, hd⟩
      have HA := hideP (HA.out.drew hd)
      clear hd
      go_wp2_with fail
      refine (de_onceB 4 (by omega) (by omega) HA.out.de).mono ?_
      rintro e w5 ⟨b, rfl, hd⟩
      have HA := hideP (HA.out.drew hd)
      clear hd
      cases b
      · go_wp2_with fail
        refine (de_below 8 (by omega) (by omega) HA.out.de).mono ?_
        rintro e w6 ⟨p, rfl, p0, p1, hd⟩
        have HA := hideP (HA.out.drew hd)
        clear hd
        go_wp2_with fail
        refine (de_below 50 (by omega) (by omega) HA.out.de).mono ?_
        rintro e w7 ⟨r, rfl, r0, r1, hd⟩
        have HA := hideP (HA.out.drew hd)
        clear hd
        go_wp2_with fail
        refine (de_below 9 (by omega) (by omega) HA.out.de).mono ?_
        rintro e w8 ⟨c, rfl, c0, c1, hd⟩
        have HA := hideP (HA.out.drew hd)
        clear hd
        go_wp2_with fail
        refine (treeSplit_any _ 5 _ t k ⟨p, r, c⟩ HL.out.symm (by decide) _ (rd_of_owns HA.out.1)).mono ?_
        rintro e w9 ⟨v9, t9, q9, b9, rfl, hl9, ho9, hb9⟩
        have HL9 := hideP hl9
        have HA9 := hideP (DAcc.of HA.out.dw ho9 hb9)
        clear hl9 ho9 hb9
        go_wp2
        go_roundg (gk - 1)
        case measure => omega
        case rel => exact ⟨t9, y - 1, by omega, by omega, by omega, by go_num, HL9, HA9⟩
      · go_wp2_with fail
        refine (treeDrop_any _ 5 _ t k HL.out.symm (by decide) _ (rd_of_owns HA.out.1)).mono ?_
        rintro e w9 ⟨v9, t9, b9, rfl, hl9, ho9, hb9⟩
        have HL9 := hideP hl9
        have HA9 := hideP (DAcc.of HA.out.dw ho9 hb9)
        clear hl9 ho9 hb9
        go_wp2
        go_roundg (gk - 1)
        case measure => omega
        case rel => exact ⟨t9, y - 1, by omega, by omega, by omega, by go_num, HL9, HA9⟩
    · have d1 : ¬ (0 < y) := hp
      go_wp2
      go_ret
      refine ⟨_, t, rfl, by have := HL.out; omega, by have := HL.out; omega, ?_⟩
      rw [HL.out]
      exact HA.out
set_option maxRecDepth 100000 in
set_option maxHeartbeats 4000000 in
theorem l6Any_any {W w : World} {cb : Nat} (h : DW W cb w) : Calls Try.prog 22 #[.pointer (some ⟨cb, 0, none⟩)] w (TreeDrawn W cb 0) := by
  have H0 := Lib.hid h
  clear h
  go_enter Try.func22, Try.ntmps22
  go_wp2_with fail
  refine (l6Tree_any H0.out).mono ?_
  rintro e w1 ⟨v, t, rfl, hl5, hl0, hA⟩
  have hl : t.length = 5 := by omega
  rw [hl] at hA
  have H1 := Lib.hid hA
  have HL := hideP hl
  clear hA hl5 hl0
  obtain ⟨g, c, rfl, hg, _⟩ := DAcc.block H1.out (by omega)
  have HC : Hid (5 ≤ c) := hideP (by
    obtain ⟨a', c', he, h'⟩ := owns_slice H1.out.1
    cases he
    exact h')
  go_wp2_with fail
  refine (de_below 5 (by omega) (by omega) H1.out.de).mono ?_
  rintro e w2 ⟨kk, rfl, kk0, kk1, hd⟩
  have H2 := Lib.hid (H1.out.drew hd)
  clear hd
  go_wp2_with fail
  refine (de_below 20 (by omega) (by omega) H2.out.de).mono ?_
  rintro e w3 ⟨y, rfl, y0, y1, hd⟩
  have H3 := Lib.hid (H2.out.drew hd)
  clear hd H2 H1
  obtain ⟨k, rfl⟩ := Int.eq_ofNat_of_zero_le kk0
  have hk : k < 5 := by omega
  obtain ⟨x, hx⟩ := some_at (l := t) (k := k) (by omega)
  have Hx := Lib.hid hx
  clear hx hl
  obtain rfl | rfl | rfl | rfl | hy : y = 0 ∨ y = 1 ∨ y = 2 ∨ y = 3 ∨ 4 ≤ y := by omega
  · have hkc : k ≤ c := by have := HC.out; omega
    go_wp2
    go_ret
    refine ⟨_, t.take k, rfl, by rw [List.length_take, HL.out]; omega, Nat.zero_le _, ?_⟩
    have h2 := (DAcc.take H3.out (k := k) (by omega)).cast (n' := (t.take k).length) (by rw [List.length_take, HL.out]; omega)
    exact h2.castx (take_rows Res.enc_len t k)
  · go_wp2_with fail
    refine (de_below 7 (by omega) (by omega) H3.out.de).mono ?_
    rintro e w4 ⟨z, rfl, z0, z1, hd⟩
    have H4 := Lib.hid (H3.out.drew hd)
    clear hd
    obtain ⟨c0, f0⟩ := DAcc.cell Res.enc_len (j := 1) H4.out Hx.out rfl
    have HF := hideP (DAcc.setField (x' := ⟨x.live, z - 1, x.bal⟩) (j := 1) (u := .int .i64 (z - 1)) Res.enc_len H4.out hg Hx.out (by decide) rfl)
    go_wp2
    go_ret
    exact ⟨_, _, rfl, by rw [List.length_set, HL.out]; omega, Nat.zero_le _, HF.out.cast (by rw [List.length_set, HL.out])⟩
  · obtain ⟨c0, f0⟩ := DAcc.cell Res.enc_len (j := 0) H3.out Hx.out rfl
    simp only [Nat.add_zero] at c0 f0
    have HF := hideP (DAcc.setField (x' := ⟨!x.live, x.par, x.bal⟩) (j := 0) (u := .bool (!x.live)) Res.enc_len H3.out hg Hx.out (by decide) rfl)
    go_wp2
    go_ret
    exact ⟨_, _, rfl, by rw [List.length_set, HL.out]; omega, Nat.zero_le _, HF.out.cast (by rw [List.length_set, HL.out])⟩
  · have hcb := H3.out.de.lt
    obtain ⟨hcb1, hcb2⟩ := hcb
    go_wp2_with fail
    refine (de_pick [-1, 1000001, 1000000] 3 rfl (by decide) (by decide) (H3.out.alloc _).de (lit_cells _ [-1, 1000001, 1000000] 3) (by omega)).mono ?_
    rintro e w4 ⟨z, _, rfl, hd⟩
    have H4 := Lib.hid ((H3.out.alloc _).drew hd)
    clear hd
    obtain ⟨c0, f0⟩ := DAcc.cell Res.enc_len (j := 3) H4.out Hx.out rfl
    have HF := hideP (DAcc.setField (x' := ⟨x.live, x.par, ⟨x.bal.p, z, x.bal.c⟩⟩) (j := 3) (u := .int .i64 z) Res.enc_len H4.out hg Hx.out (by decide) rfl)
    go_wp2
    go_ret
    exact ⟨_, _, rfl, by rw [List.length_set, HL.out]; omega, Nat.zero_le _, HF.out.cast (by rw [List.length_set, HL.out])⟩
  · have d0 : (y == 0) = false := by simp; omega
    have d1 : (y == 1) = false := by simp; omega
    have d2 : (y == 2) = false := by simp; omega
    have d3 : (y == 3) = false := by simp; omega
    go_wp2
    go_ret
    exact ⟨_, t, rfl, by rw [HL.out]; omega, Nat.zero_le _, H3.out.cast HL.out.symm⟩

end Go.Proofs.Ytabbncoihmhocaa

namespace Go.Proofs.Ytabbncoihmhocaa
open Go.RowKit

set_option maxRecDepth 100000 in
set_option maxHeartbeats 4000000 in
theorem specShowTree_any (ad : Option Addr) (n cap : Nat) (t : List Res) (hn : n = t.length) (hl : n ≤ 1048576) (w : World) (h : Rd w ad (t.flatMap Res.enc)) :
    Calls Try.prog 44 #[.slice ad n cap] w fun e w' => e = .returned (.string ⟨(showTree t).toArray⟩) ∧ Below w.heap.size w w' := by
  have Hn := Lib.hid hn
  clear hn
  go_enter Try.func44, Try.ntmps44
  go_wp2_with fail
  refine (specTreeOk_any _ _ _ t Hn.out hl _ h).mono ?_
  rintro e w1 ⟨rfl, hb1⟩
  cases hok : treeOk t
  · have HS : Hid (showTree t = []) := hideP (by unfold showTree; rw [hok]; rfl)
    go_wp2
    go_ret
    exact ⟨by rw [HS.out]; rfl, hb1⟩
  have HS : Hid (showTree t = treeShow t) := hideP (by unfold showTree; rw [hok]; rfl)
  have Hok := Lib.hid hok
  have hn5 : n = 5 := by have := Hn.out; have := (tree_parts hok).1; omega
  subst hn5
  clear hok
  go_wp2
  go_loopg [3, 4] 6 (fun gk s i wr => ∃ (k : Nat) (acc : List UInt8), 5 < gk + k ∧ k ≤ 5 ∧ i = .int .i64 (k : Int) ∧ s = .string ⟨acc.toArray⟩ ∧ acc.length ≤ 200 ∧ Hid (treeShow (t.take k) = acc) ∧ Below w.heap.size w wr)
  case atStart => exact ⟨0, [], by omega, by omega, rfl, rfl, by simp, hideP rfl, hb1⟩
  case round =>
    obtain ⟨k, acc, hgk, hk, rfl, rfl, hal, hv, hb⟩ := hrel
    by_cases hlt : k < 5
    · obtain ⟨x, hx⟩ := some_at (l := t) (k := k) (by have := Hn.out; omega)
      obtain ⟨b, o, rfl, hbw, g1, g2, g3, g4, g5⟩ := (h.below hb).rowRes hx
      have HV : Hid (treeShow (t.take (k + 1)) = acc ++ resShow x) := hideP (by rw [treeShow_next hx, hv.out])
      have hal2 : (acc ++ resShow x).length ≤ 200 := by rw [← HV.out]; exact treeShow_take t _ Hn.out.symm
      have HAL := Lib.hid hal2
      have hpp := live_par Hok.out hx
      have k0 : (0 : Int) ≤ (k : Int) := by omega
      have k5 : (k : Int) < 5 := by omega
      obtain ⟨xl, xp, ⟨y1, y2, y3⟩⟩ := x
      dsimp only at g1 g2 g3 g4 g5 hpp
      obtain ⟨hpp0, hpp1⟩ := hpp
      have hrl : (varsL (resNums ⟨xl, xp, ⟨y1, y2, y3⟩⟩)).length ≤ 40 := varsL_len _
      rw [resShow_eq] at HV HAL
      have v1 := varS_len (flagI xl); have v2 := varS_len (xp + 1); have v3 := varS_len y1; have v4 := varS_len y2; have v5 := varS_len y3
      have zw : IntKind.i64.wrap (xp + 1) = xp + 1 := IntWalk.i64_in _ (by omega)
      clear hx hal2
      go_wp2
      have q_g1 := fun d os => cell_regrown g1 d os
      have q_g2 := fun d os => cell_regrown g2 d os
      have q_g3 := fun d os => cell_regrown g3 d os
      have q_g4 := fun d os => cell_regrown g4 d os
      have q_g5 := fun d os => cell_regrown g5 d os
      refine wp_region_quiet_below (by kernel_rfl) (by kernel_rfl) ?_
      repeat (first | go_big_quiet_step ((first | (go_at_call 69; exact Calls.regrown_of ((specFlag_any _ _).mono fun _ _ h => ⟨h.1, h.2 ▸ Below.refl _ _⟩)) | (go_at_call 68; exact Calls.regrown_of (specVar_any _ _)))) | quiet_step ((first | (go_at_call 69; exact Calls.regrown_of ((specFlag_any _ _).mono fun _ _ h => ⟨h.1, h.2 ▸ Below.refl _ _⟩)) | (go_at_call 68; exact Calls.regrown_of (specVar_any _ _)))))
      refine wpQuiet_nil ?_
      intro _ hw'
      obtain ⟨⟨dq, osq⟩, hw''⟩ := hw'
      subst hw''
      clear q_g1 q_g2 q_g3 q_g4 q_g5
      obtain ⟨wq, hwq⟩ : ∃ wq, wq = Go.Sort.grow (redrawn wr dq) osq := ⟨_, rfl⟩
      have hbwq : Below wr.heap.size wr wq := hwq ▸ below_regrown _ dq osq
      rw [← hwq]
      clear hwq
      clear zw
      go_wp2
      go_roundg (gk - 1)
      case measure => omega
      case rel => exact ⟨k + 1, _, by omega, by omega, by go_num, by simp only [ByteArray.mk_append_mk, List.append_assoc], HAL.out, HV, hb.trans (hbwq.mono hb.size)⟩
    · have HV : Hid (treeShow t = acc) := hideP (by rw [← hv.out, List.take_of_length_le (by have := Hn.out; omega)])
      go_wp2
      go_ret
      exact ⟨by rw [HS.out, HV.out]; rfl, hb⟩


end Go.Proofs.Ytabbncoihmhocaa

namespace Go.Proofs.Ytabbncoihmhocaa
open Go.RowKit

def TextDrawn (W : World) (cb : Nat) (w : World) (m : Nat) (e : Ending) (w' : World) : Prop := ∃ s : ByteArray, e = .returned (.string s) ∧ s.size ≤ m ∧ Drew W cb w w'
theorem Try.infoByteB : (Try.prog.info? 5).map (fun i => (i.zero, i.size, i.bytes)) = some (some (.int .u8 0), 1, 1) := by kernel_rfl
set_option maxRecDepth 100000 in
set_option maxHeartbeats 4000000 in
theorem l1Text_any {W w : World} {cb : Nat} (h : DE W cb w) : Calls Try.prog 66 #[.pointer (some ⟨cb, 0, none⟩), .int .i64 3] w (TextDrawn W cb w 3) := by
  obtain ⟨i0, hi, hz0, hz1, hz2⟩ := info_parts Try.infoByteB
  have hW := h.lt.2
  have HD := hideP ((Drew.refl h).below (below_a1 w (.cells #[] 5)))
  have HO : Hid ((w.alloc (.cells #[] 5)).ownsRow w.heap.size 5 1 (.slice (some ⟨w.heap.size, 0, none⟩) 0 0) 0 (bcells [])) := hideP (owns_lit (Nat.le_refl _) rfl (by decide) rfl rfl)
  clear h
  go_enter Try.func66, Try.ntmps66
  go_wp2_with fail
  refine (de_below 4 (by omega) (by omega) HD.out.1).mono ?_
  rintro e w1 ⟨st, rfl, st0, st1, hd⟩
  have HO := hideP (hd.owns HO.out hW)
  have HD := hideP (HD.out.trans hd)
  clear hd
  go_wp2_with fail
  refine (de_below 4 (by omega) (by omega) HD.out.1).mono ?_
  rintro e w2 ⟨yy, rfl, yy0, yy1, hd⟩
  have HO := hideP (hd.owns HO.out hW)
  have HD := hideP (HD.out.trans hd)
  obtain ⟨y, rfl⟩ := Int.eq_ofNat_of_zero_le yy0
  have hy3 : y ≤ 3 := by omega
  clear hd yy0 yy1
  go_wp2
  go_loopg [5, 7] 5 (fun gk v iv wr => ∃ (y j g c : Nat) (ls : List UInt8), y < gk ∧ y + j ≤ 3 ∧ Hid (ls.length = j) ∧ v = .slice (some ⟨g, 0, none⟩) j c ∧ iv = .int .i64 (y : Int) ∧ Hid (wr.ownsRow w.heap.size 5 1 (.slice (some ⟨g, 0, none⟩) j c) j (bcells ls)) ∧ Hid (Drew W cb w wr))
  case atStart => exact ⟨y, 0, _, _, [], by omega, by omega, hideP rfl, rfl, rfl, HO, HD⟩
  case round =>
    clear HO HD hy3
    obtain ⟨y, j, g, c, ls, hgk, hyj, HLS, rfl, rfl, HO, HD⟩ := hrel
    by_cases h0 : 0 < y
    · have d0 : (y : Int) > 0 := by omega
      go_wp2_with fail
      refine (de_byte HD.out.1).mono ?_
      rintro e w3 ⟨b, rfl, b0, b1, hd⟩
      have HO := hideP (hd.owns HO.out hW)
      have HD := hideP (HD.out.trans hd)
      clear hd
      go_upto_if 23 with fail
      go_cut [8] (fun s wx => ∃ b : Int, 0 ≤ b ∧ b ≤ 255 ∧ s = .int .i64 b ∧ wx = w3)
      case first =>
        by_cases h1 : st = 1
        · have d1 : (st == 1) = true := by simp [h1]
          clear h1
          go_wp2
          go_meet
          exact ⟨b % 2, by omega, by omega, by go_num, rfl⟩
        · have d1 : (st == 1) = false := by simp [h1]
          clear h1
          go_wp2
          go_meet
          exact ⟨b, b0, b1, rfl, rfl⟩
      case rest =>
      clear b0 b1
      obtain ⟨b, b0, b1, rfl, rfl⟩ := hcut
      go_upto_if 27 with fail
      go_cut [8] (fun s wx => ∃ b : Int, 0 ≤ b ∧ b ≤ 255 ∧ s = .int .i64 b ∧ wx = wc)
      case first =>
        by_cases h1 : st = 2
        · have d1 : (st == 2) = true := by simp [h1]
          clear h1
          go_wp2
          go_meet
          exact ⟨97 + b % 4, by omega, by omega, by go_num, rfl⟩
        · have d1 : (st == 2) = false := by simp [h1]
          clear h1
          go_wp2
          go_meet
          exact ⟨b, b0, b1, rfl, rfl⟩
      case rest =>
      clear b0 b1
      obtain ⟨b, b0, b1, rfl, rfl⟩ := hcut
      go_wp2_with (at_builtin; refine wpList_append_rd _ rfl _ _ 22 rfl w.heap.size 5 i0 (.int .u8 0) 1 1 Try.underlying22 hi hz0 hz1 hz2 rfl (by decide) _ j _ rfl (World.ownsRow.alloc HO.out _) _ 1 1 [.int .u8 b] rfl rfl (rd_litg (by rfl) rfl) ?c1 ?c2 ?c3 ?c4 ?_)
      case c1 => simp [Value.oneCell']
      case c2 => unfold maxLen; omega
      case c3 => omega
      case c4 => have := HD.out.2.size; simp; omega
      intro v9 w9 ho9 hg9
      obtain ⟨g9, c9, rfl⟩ : ∃ g9 c9, v9 = .slice (some ⟨g9, 0, none⟩) (j + 1) c9 := by
        rcases ho9.2 with ⟨_, h0⟩ | ⟨g9, c9, _, e, _⟩
        · omega
        · exact ⟨g9, c9, e⟩
      have HL9 : Hid ((ls ++ [UInt8.ofNat b.toNat]).length = j + 1) := hideP (by rw [List.length_append, HLS.out]; rfl)
      have HO9 : Hid (w9.ownsRow w.heap.size 5 1 (.slice (some ⟨g9, 0, none⟩) (j + 1) c9) (j + 1) (bcells (ls ++ [UInt8.ofNat b.toNat]))) := hideP (by rw [bcells_append, bcells_one ⟨b0, b1⟩]; exact ho9)
      have HD9 := hideP ((HD.out.below (below_a1 wc (.cells #[.int .u8 b] 5))).own hg9 hW (fun q e => (HO.out.lt q e).1))
      clear ho9 hg9 HO HD HLS
      go_wp2
      go_roundg (gk - 1)
      case measure => omega
      case rel => exact ⟨y - 1, j + 1, g9, c9, _, by omega, by omega, HL9, rfl, by go_num, HO9, HD9⟩
    · have d0 : ¬ ((y : Int) > 0) := by omega
      have HC := conv_own (P := Try.prog) (src := 22) (dst := 9) Try.underlying22 Try.underlying5 Try.underlying9 HO.out
      go_wp2
      go_ret
      refine ⟨_, rfl, ?_, HD.out⟩
      show ls.toArray.size ≤ 3
      have := HLS.out
      simp; omega
theorem u8_in (z : Int) : 0 ≤ IntKind.u8.wrap z ∧ IntKind.u8.wrap z ≤ 255 := by
  have h : IntKind.u8.wrap z = z % 256 := by simp [IntKind.wrap, IntKind.signed, IntKind.bits]
  rw [h]
  omega
theorem conv1 (w : World) (z : Int) : Sem.run Try.prog (convert 22 9 (.slice (some ⟨w.heap.size, 0, none⟩) 1 1)) (w.alloc (.cells #[.int .u8 (IntKind.u8.wrap z)] 5)) = .ok (.string ⟨#[UInt8.ofNat (IntKind.u8.wrap z).toNat]⟩) (w.alloc (.cells #[.int .u8 (IntKind.u8.wrap z)] 5)) :=
  conv_own (P := Try.prog) (src := 22) (dst := 9) (E := 5) (base := w.heap.size) (l := [UInt8.ofNat (IntKind.u8.wrap z).toNat]) Try.underlying22 Try.underlying5 Try.underlying9 (owns_lit (Nat.le_refl _) rfl (by decide) rfl (bcells_one (u8_in z)).symm)
theorem de_upto (m : Int) (h0 : 1 ≤ m) (h1 : m ≤ 1000000) {W w : World} {cb : Nat} (h : DE W cb w) : Calls Try.prog 46 #[.pointer (some ⟨cb, 0, none⟩), .int .i64 m] w (DrawnI 0 (m - 1) W cb w) := by
  by_cases hb : m ≤ 256
  · exact de_below m h0 hb h
  · exact de_big m (by omega) h1 h
set_option maxRecDepth 100000 in
set_option maxHeartbeats 4000000 in
theorem l1Spoil_any {W w : World} {cb : Nat} (s : ByteArray) (hs : s.size ≤ 1000000) (h : DE W cb w) : Calls Try.prog 43 #[.pointer (some ⟨cb, 0, none⟩), .string s] w (TextDrawn W cb w 1000003) := by
  have hW := h.lt.2
  have HD := hideP (Drew.refl h)
  clear h
  go_enter Try.func43, Try.ntmps43
  by_cases h0 : s.size = 0
  · have d0 : ((s.size : Int) == 0) = true := by simp [h0]
    clear h0
    go_wp2_with fail
    refine (l1Text_any HD.out.1).mono ?_
    rintro e w1 ⟨t, rfl, ht, hd⟩
    have HT := hideP ht
    have HD := hideP hd
    clear hd ht
    go_wp2
    go_ret
    exact ⟨t, rfl, Nat.le_trans HT.out (by decide), HD.out⟩
  · have d0 : ((s.size : Int) == 0) = false := by rw [beq_eq_false_iff_ne]; omega
    go_wp2_with fail
    refine (de_upto (s.size : Int) (by omega) (by omega) HD.out.1).mono ?_
    rintro e w1 ⟨kk, rfl, kk0, kk1, hd⟩
    obtain ⟨k, rfl⟩ := Int.eq_ofNat_of_zero_le kk0
    have HD := hideP hd
    have hk : k < s.size := by omega
    clear hd kk0 kk1
    go_wp2_with fail
    refine (de_below 4 (by omega) (by omega) HD.out.1).mono ?_
    rintro e w2 ⟨y, rfl, y0, y1, hd⟩
    have HD := hideP (HD.out.trans hd)
    clear hd
    have k0 : (0 : Int) ≤ (k : Int) := by omega
    have k1 : (k : Int) < (s.size : Int) := by omega
    have k2 : (k : Int) ≤ (s.size : Int) := by omega
    have k3 : (k : Int) + 1 ≤ (s.size : Int) := by omega
    have k4 : (0 : Int) ≤ (k : Int) + 1 := by omega
    obtain ⟨A, hA⟩ : ∃ A, s.extract 0 k = A := ⟨_, rfl⟩
    obtain ⟨B, hB⟩ : ∃ B, s.extract k s.size = B := ⟨_, rfl⟩
    obtain ⟨C, hC⟩ : ∃ C, s.extract (k + 1) s.size = C := ⟨_, rfl⟩
    have sA : A.size ≤ 1000000 ∧ B.size ≤ 1000000 ∧ C.size ≤ 1000000 ∧ A.size + B.size ≤ 1000000 ∧ A.size + C.size ≤ 1000000 := by
      rw [← hA, ← hB, ← hC, ByteArray.size_extract, ByteArray.size_extract, ByteArray.size_extract]; omega
    obtain ⟨sA1, sA2, sA3, sA4, sA5⟩ := sA
    have qw : IntKind.i64.wrap ((k : Int) + 1) = (k : Int) + 1 := by simp [IntKind.wrap, IntKind.signed, IntKind.bits]; omega
    have qt : ((k : Int) + 1).toNat = k + 1 := by omega
    have qq1 : ¬ (9223372036854775807 < A.size + 1) := by omega
    have qq2 : ¬ (9223372036854775807 < A.size + 1 + B.size) := by omega
    have qq3 : ¬ (9223372036854775807 < A.size + 1 + C.size) := by omega
    obtain rfl | rfl | rfl | rfl : y = 0 ∨ y = 1 ∨ y = 2 ∨ y = 3 := by omega
    · go_wp2
      go_quiet (fail)
      go_wp2
      go_ret
      exact ⟨_, rfl, by rw [ByteArray.size_append]; omega, HD.out.below (below_drewN (Below.refl _ _) _)⟩
    · go_wp2
      go_region_law (go_simp; go_at_call 67; refine (de_byte (show DE W cb w2.drew from HD.out.1)).mono ?_; rintro e w8 ⟨x, rfl, x0, x1, hd⟩; replace hd := Drew.undrew hd; have HD8 := hideP (HD.out.trans hd); have HCV := conv1 w8; clear hd; go_wp2_with fail)
      all_goals
        go_wp2
        go_ret
        exact ⟨_, rfl, by rw [ByteArray.size_append, ByteArray.size_append]; show A.size + 1 + _ ≤ _; omega, HD8.out.alloc _⟩
    · go_wp2
      go_ret
      exact ⟨_, rfl, by omega, HD.out⟩
    · go_wp2
      go_region_law (go_simp; go_at_call 46; refine (de_below 255 (by omega) (by omega) (show DE W cb w2.drew from HD.out.1)).mono ?_; rintro e w8 ⟨x, rfl, x0, x1, hd⟩; replace hd := Drew.undrew hd; have HD8 := hideP (HD.out.trans hd); have HCV := conv1 w8; clear hd; go_wp2_with fail)
      all_goals
        go_wp2
        go_ret
        exact ⟨_, rfl, by rw [ByteArray.size_append, ByteArray.size_append]; show A.size + 1 + _ ≤ _; omega, HD8.out.alloc _⟩

end Go.Proofs.Ytabbncoihmhocaa

namespace Go.Proofs.Ytabbncoihmhocaa
open Go.RowKit

theorem specShowArena_n (l : List Thing) (p : Option Addr) (c n : Nat) (hn : l.length = n) (hl : n ≤ 1048576) (hs : Short 1048576 l) (w : World) (h : ThingsRd w p l) :
    Calls Try.prog 40 #[.slice p n c] w fun e w' => e = .returned (.string ⟨(showArena l).toArray⟩) ∧ Below w.heap.size w w' := by
  subst hn
  exact specShowArena_any l p c hl hs w h
set_option maxRecDepth 100000 in
set_option maxHeartbeats 4000000 in
theorem drawShowTree_any (a : Option Addr) (n cap : Nat) (l : List UInt8) (hn : n = l.length) (hl : n ≤ 1048576) (w : World) (h : Rd w a (byteCells l)) :
    Calls Try.prog 5 #[.slice a n cap] w fun e w' => ∃ (v : Value) (x : List Res), e = .returned v ∧ x.length ≤ 5 ∧ w'.ownsRow w.heap.size 57 5 v x.length (x.flatMap Res.enc) ∧ Below w.heap.size w w' := by
  have Hn := Lib.hid hn
  clear hn
  go_enter Try.func5, Try.ntmps5
  go_wp2_with fail
  refine (de_new a n cap l Hn.out hl _ h).mono ?_
  rintro e W ⟨rfl, hd, hb⟩
  have Hb := Lib.hid hb
  have Hd := Lib.hid hd
  clear hb hd
  go_wp2_with fail
  refine (l6Any_any Hd.out).mono ?_
  rintro e w2 ⟨v, x, rfl, hx, _, hA⟩
  have H2 := Lib.hid hA
  clear hA
  go_wp2
  go_ret
  exact ⟨v, x, rfl, hx, owns_mono H2.out.1 Hb.out.size, Hb.out.grown H2.out.2.1 Hb.out.size (fun k hk => by cases hk; exact Nat.le_refl _)⟩
set_option maxRecDepth 100000 in
set_option maxHeartbeats 4000000 in
theorem drawShowObj_any (a : Option Addr) (n cap : Nat) (l : List UInt8) (hn : n = l.length) (hl : n ≤ 1048576) (w : World) (h : Rd w a (byteCells l)) :
    Calls Try.prog 10 #[.slice a n cap] w fun e w' => ∃ (ob : Thing) (vl vd vq : Value), e = .returned (.agg #[.int .i64 ob.gen, .int .i64 ob.kind, .int .i64 ob.box, .int .i64 ob.res, .int .i64 ob.til, .int .i64 ob.pages, .int .i64 ob.wait, .int .i64 ob.got, .int .i64 ob.ran, .bool ob.mark, vl, vd, vq]) ∧ TEOk w' w.heap.size 200 false ⟨ob, vl, vd, vq⟩ ∧ Below w.heap.size w w' := by
  have Hn := Lib.hid hn
  have h1 := h.below (below_a1 w (.cells #[.int .i64 0, .int .i64 0, .int .i64 0, .int .i64 0, .int .i64 0, .int .i64 0, .int .i64 0, .int .i64 0, .int .i64 0, .bool false, .slice none 0 0, .slice none 0 0, .slice none 0 0] 34))
  have HR0 := hideP (Blk.new w #[.int .i64 0, .int .i64 0, .int .i64 0, .int .i64 0, .int .i64 0, .int .i64 0, .int .i64 0, .int .i64 0, .int .i64 0, .bool false, .slice none 0 0, .slice none 0 0, .slice none 0 0] 34)
  clear hn h
  go_enter Try.func10, Try.ntmps10
  go_wp2_with fail
  refine (de_new a n cap l Hn.out hl _ h1).mono ?_
  rintro e W ⟨rfl, hd, hb⟩
  have HR := hideP (HR0.out.below hb)
  have Hb := Lib.hid ((below_a1 w (.cells #[.int .i64 0, .int .i64 0, .int .i64 0, .int .i64 0, .int .i64 0, .int .i64 0, .int .i64 0, .int .i64 0, .int .i64 0, .bool false, .slice none 0 0, .slice none 0 0, .slice none 0 0] 34)).trans (hb.mono (below_a1 w (.cells #[.int .i64 0, .int .i64 0, .int .i64 0, .int .i64 0, .int .i64 0, .int .i64 0, .int .i64 0, .int .i64 0, .int .i64 0, .bool false, .slice none 0 0, .slice none 0 0, .slice none 0 0] 34)).size))
  have Hd := Lib.hid hd
  have hcb : (w.alloc (.cells #[.int .i64 0, .int .i64 0, .int .i64 0, .int .i64 0, .int .i64 0, .int .i64 0, .int .i64 0, .int .i64 0, .int .i64 0, .bool false, .slice none 0 0, .slice none 0 0, .slice none 0 0] 34)).heap.size = w.heap.size + 1 := by simp
  rw [hcb] at Hd ⊢
  clear hb hd HR0 hcb h1
  go_wp2_with fail
  refine (l8One_any Hd.out.de).mono ?_
  rintro e w2 ⟨ob, vl, vd, vq, rfl, ho, hd⟩
  have hEl : RI w2 W.heap.size vl ob.links := ho.l
  have hEd : RI w2 W.heap.size vd ob.data := ho.d
  have hEq : RM w2 W.heap.size vq ob.queue := ho.q
  obtain ⟨pl, ql, rfl, _⟩ := owns_slice hEl
  obtain ⟨pd, qd, rfl, _⟩ := owns_slice hEd
  obtain ⟨pq, qq, rfl, _⟩ := owns_slice hEq
  have HX := hideP (ho.mono Hb.out.size (Nat.le_refl _) (fun e => e))
  have HR := hideP ((KeptP.of_grown hd.2).blk HR.out (fun e => by injection e with e; omega))
  have HB := hideP (Hb.out.grown hd.2 Hb.out.size (fun k hk => by cases hk; omega))
  clear ho hd hEl hEd hEq
  have r0 : w2.cell? ⟨w.heap.size, 0, none⟩ = some (.int .i64 0) := (HR.out.cell 0).trans rfl
  have fr0 : w2.frozen? ⟨w.heap.size, 0, none⟩ = false := HR.out.frozen 0
  have r1 : w2.cell? ⟨w.heap.size, 1, none⟩ = some (.int .i64 0) := (HR.out.cell 1).trans rfl
  have fr1 : w2.frozen? ⟨w.heap.size, 1, none⟩ = false := HR.out.frozen 1
  have r2 : w2.cell? ⟨w.heap.size, 2, none⟩ = some (.int .i64 0) := (HR.out.cell 2).trans rfl
  have fr2 : w2.frozen? ⟨w.heap.size, 2, none⟩ = false := HR.out.frozen 2
  have r3 : w2.cell? ⟨w.heap.size, 3, none⟩ = some (.int .i64 0) := (HR.out.cell 3).trans rfl
  have fr3 : w2.frozen? ⟨w.heap.size, 3, none⟩ = false := HR.out.frozen 3
  have r4 : w2.cell? ⟨w.heap.size, 4, none⟩ = some (.int .i64 0) := (HR.out.cell 4).trans rfl
  have fr4 : w2.frozen? ⟨w.heap.size, 4, none⟩ = false := HR.out.frozen 4
  have r5 : w2.cell? ⟨w.heap.size, 5, none⟩ = some (.int .i64 0) := (HR.out.cell 5).trans rfl
  have fr5 : w2.frozen? ⟨w.heap.size, 5, none⟩ = false := HR.out.frozen 5
  have r6 : w2.cell? ⟨w.heap.size, 6, none⟩ = some (.int .i64 0) := (HR.out.cell 6).trans rfl
  have fr6 : w2.frozen? ⟨w.heap.size, 6, none⟩ = false := HR.out.frozen 6
  have r7 : w2.cell? ⟨w.heap.size, 7, none⟩ = some (.int .i64 0) := (HR.out.cell 7).trans rfl
  have fr7 : w2.frozen? ⟨w.heap.size, 7, none⟩ = false := HR.out.frozen 7
  have r8 : w2.cell? ⟨w.heap.size, 8, none⟩ = some (.int .i64 0) := (HR.out.cell 8).trans rfl
  have fr8 : w2.frozen? ⟨w.heap.size, 8, none⟩ = false := HR.out.frozen 8
  have r9 : w2.cell? ⟨w.heap.size, 9, none⟩ = some (.bool false) := (HR.out.cell 9).trans rfl
  have fr9 : w2.frozen? ⟨w.heap.size, 9, none⟩ = false := HR.out.frozen 9
  have r10 : w2.cell? ⟨w.heap.size, 10, none⟩ = some (.slice none 0 0) := (HR.out.cell 10).trans rfl
  have fr10 : w2.frozen? ⟨w.heap.size, 10, none⟩ = false := HR.out.frozen 10
  have r11 : w2.cell? ⟨w.heap.size, 11, none⟩ = some (.slice none 0 0) := (HR.out.cell 11).trans rfl
  have fr11 : w2.frozen? ⟨w.heap.size, 11, none⟩ = false := HR.out.frozen 11
  have r12 : w2.cell? ⟨w.heap.size, 12, none⟩ = some (.slice none 0 0) := (HR.out.cell 12).trans rfl
  have fr12 : w2.frozen? ⟨w.heap.size, 12, none⟩ = false := HR.out.frozen 12
  have K9 := keptSets w2 w.heap.size 0 (TE.enc ⟨ob, .slice pl ob.links.length ql, .slice pd ob.data.length qd, .slice pq ob.queue.length qq⟩)
  have HE9 := hideP (HX.out.kept K9 (riNe HR.out (by decide)) (rmNe HR.out (by decide)))
  have HD9 := hideP (HB.out.trans (K9.below HB.out.size (fun q e => by omega)))
  clear K9 HX HR HB Hb Hd
  go_wp2
  refine bodyPost_ret (v := .agg #[.int .i64 ob.gen, .int .i64 ob.kind, .int .i64 ob.box, .int .i64 ob.res, .int .i64 ob.til, .int .i64 ob.pages, .int .i64 ob.wait, .int .i64 ob.got, .int .i64 ob.ran, .bool ob.mark, .slice pl ob.links.length ql, .slice pd ob.data.length qd, .slice pq ob.queue.length qq]) (by simp [results, Try.results10, go_sem, r0, r1, r2, r3, r4, r5, r6, r7, r8, r9, r10, r11, r12]) rfl ⟨ob, _, _, _, rfl, ?_, ?_⟩
  · exact HE9.out
  · exact HD9.out
set_option maxRecDepth 100000 in
set_option maxHeartbeats 4000000 in
theorem drawShowArena_any (a : Option Addr) (n cap : Nat) (l : List UInt8) (hn : n = l.length) (hl : n ≤ 1048576) (w : World) (h : Rd w a (byteCells l)) :
    Calls Try.prog 14 #[.slice a n cap] w fun e w' => ∃ (v : Value) (m : Nat) (ts : List TE), e = .returned v ∧ m ≤ 10 ∧ TS w' w.heap.size 101 false v m ts ∧ Below w.heap.size w w' := by
  have Hn := Lib.hid hn
  clear hn
  go_enter Try.func14, Try.ntmps14
  go_wp2_with fail
  refine (de_new a n cap l Hn.out hl _ h).mono ?_
  rintro e W ⟨rfl, hd, hb⟩
  have Hb := Lib.hid hb
  have Hd := Lib.hid hd
  clear hb hd
  go_wp2_with fail
  refine (l8Any_any Hd.out.de).mono ?_
  rintro e w2 ⟨v, m, ts, rfl, ht, hm, _, hd⟩
  have HO := hideP ht
  have HD := hideP hd
  clear ht hd
  go_wp2
  go_ret
  exact ⟨v, m, ts, rfl, hm, HO.out.mono Hb.out.size (Nat.le_refl _) (fun e => e), Hb.out.grown HD.out.2 Hb.out.size (fun k hk => by cases hk; exact Nat.le_refl _)⟩
set_option maxRecDepth 100000 in
set_option maxHeartbeats 4000000 in
theorem drawReadArena_any (a : Option Addr) (n cap : Nat) (l : List UInt8) (hn : n = l.length) (hl : n ≤ 1048576) (w : World) (h : Rd w a (byteCells l)) :
    Calls Try.prog 19 #[.slice a n cap] w fun e w' => ∃ s : ByteArray, e = .returned (.string s) ∧ s.size ≤ 1000003 ∧ Below w.heap.size w w' := by
  have Hn := Lib.hid hn
  clear hn
  go_enter Try.func19, Try.ntmps19
  go_wp2_with fail
  refine (de_new a n cap l Hn.out hl _ h).mono ?_
  rintro e W ⟨rfl, hd, hb⟩
  have Hb := Lib.hid hb
  have Hd := Lib.hid hd
  clear hb hd
  go_wp2_with fail
  refine (l8Arena_any Hd.out.de).mono ?_
  rintro e w2 ⟨v, m, ts, rfl, ht, hm, _, hd⟩
  obtain ⟨pv, cv, rfl, _⟩ := owns_slice ht.row
  have HT := hideP ht
  have HD := hideP hd
  clear ht hd
  go_wp2_with fail
  refine (specShowArena_n _ _ cv m (by rw [List.length_map]; exact HT.out.len) (by omega) (HT.out.short (by decide)) w2 HT.out.rd).mono ?_
  rintro e w3 ⟨rfl, hb⟩
  have HD := hideP (HD.out.below hb)
  have HS : Hid ((⟨(showArena (ts.map (·.t))).toArray⟩ : ByteArray).size ≤ 1000000) := hideP (by
    show (showArena (ts.map (·.t))).toArray.size ≤ 1000000
    have h1 := shows_len (ts.map (·.t))
    rw [List.length_map, HT.out.len] at h1
    rw [List.size_toArray]
    unfold showArena
    split
    · omega
    · simp)
  clear hb HT
  go_wp2_with fail
  refine (de_onceB 3 (by omega) (by omega) HD.out.1).mono ?_
  rintro e w4 ⟨b, rfl, hd⟩
  have HD := hideP (HD.out.trans hd)
  clear hd
  cases b
  · go_wp2
    go_ret
    exact ⟨_, rfl, Nat.le_trans HS.out (by decide), Hb.out.grown HD.out.2 Hb.out.size (fun k hk => by cases hk; exact Nat.le_refl _)⟩
  · go_wp2_with fail
    refine (l1Spoil_any _ HS.out HD.out.1).mono ?_
    rintro e w5 ⟨t, rfl, ht, hd⟩
    have HT := hideP ht
    have HD := hideP (HD.out.trans hd)
    clear hd ht
    go_wp2
    go_ret
    exact ⟨t, rfl, HT.out, Hb.out.grown HD.out.2 Hb.out.size (fun k hk => by cases hk; exact Nat.le_refl _)⟩
set_option maxRecDepth 100000 in
set_option maxHeartbeats 4000000 in
theorem drawReadTree_any (a : Option Addr) (n cap : Nat) (l : List UInt8) (hn : n = l.length) (hl : n ≤ 1048576) (w : World) (h : Rd w a (byteCells l)) :
    Calls Try.prog 20 #[.slice a n cap] w fun e w' => ∃ s : ByteArray, e = .returned (.string s) ∧ s.size ≤ 1000003 ∧ Below w.heap.size w w' := by
  have Hn := Lib.hid hn
  clear hn
  go_enter Try.func20, Try.ntmps20
  go_wp2_with fail
  refine (de_new a n cap l Hn.out hl _ h).mono ?_
  rintro e W ⟨rfl, hd, hb⟩
  have Hb := Lib.hid hb
  have Hd := Lib.hid hd
  clear hb hd
  go_wp2_with fail
  refine (l6Tree_any Hd.out).mono ?_
  rintro e w2 ⟨v, x, rfl, hx, _, hA⟩
  obtain ⟨pv, cv, rfl, _⟩ := owns_slice hA.1
  have H2 := hideP hA
  clear hA
  go_wp2_with fail
  refine (specShowTree_any _ _ cv x rfl (by omega) w2 (rd_of_owns H2.out.1)).mono ?_
  rintro e w3 ⟨rfl, hb⟩
  have HD : Hid (Drew W w.heap.size W w3) := hideP (Drew.below ⟨H2.out.de, H2.out.2.1⟩ hb)
  have HS : Hid ((⟨(showTree x).toArray⟩ : ByteArray).size ≤ 1000000) := hideP (by
    show (showTree x).toArray.size ≤ 1000000
    have h1 := treeShow_len x
    rw [List.size_toArray]
    unfold showTree
    split
    · omega
    · simp)
  clear hb H2
  go_wp2_with fail
  refine (de_onceB 3 (by omega) (by omega) HD.out.1).mono ?_
  rintro e w4 ⟨b, rfl, hd⟩
  have HD := hideP (HD.out.trans hd)
  clear hd
  cases b
  · go_wp2
    go_ret
    exact ⟨_, rfl, Nat.le_trans HS.out (by decide), Hb.out.grown HD.out.2 Hb.out.size (fun k hk => by cases hk; exact Nat.le_refl _)⟩
  · go_wp2_with fail
    refine (l1Spoil_any _ HS.out HD.out.1).mono ?_
    rintro e w5 ⟨t, rfl, ht, hd⟩
    have HT := hideP ht
    have HD := hideP (HD.out.trans hd)
    clear hd ht
    go_wp2
    go_ret
    exact ⟨t, rfl, HT.out, Hb.out.grown HD.out.2 Hb.out.size (fun k hk => by cases hk; exact Nat.le_refl _)⟩
end Go.Proofs.Ytabbncoihmhocaa

namespace Go.Proofs.Ytabbncoihmhocaa
open Go.RowKit

def resOf (ns : List Nat) (i : Nat) : Res := ⟨decide (ns.getD (5 * i) 0 = 1), (ns.getD (5 * i + 1) 0 : Int) - 1, ⟨(ns.getD (5 * i + 2) 0 : Int), (ns.getD (5 * i + 3) 0 : Int), (ns.getD (5 * i + 4) 0 : Int)⟩⟩
def buildTree (ns : List Nat) (k : Nat) : List Res := (List.range k).map (resOf ns)
def readTree (l : List UInt8) : Option (List Res) := (seqGo l 25).bind fun q => if showTree (buildTree q.1 5) = l then some (buildTree q.1 5) else none

def rRes (l : List UInt8) (a : Nat) (b : Bool) : Res × Nat × Bool :=
  let f := rFlag l a b
  let p := rNum l f.2.1 f.2.2
  let q1 := rNum l p.2.1 p.2.2
  let q2 := rNum l q1.2.1 q1.2.2
  let q3 := rNum l q2.2.1 q2.2.2
  (⟨f.1, (p.1 : Int) - 1, ⟨(q1.1 : Int), (q2.1 : Int), (q3.1 : Int)⟩⟩, q3.2.1, q3.2.2)
def rTree (l : List UInt8) : Nat → List Res × Nat × Bool
  | 0 => ([], 0, false)
  | k + 1 => ((rTree l k).1 ++ [(rRes l (rTree l k).2.1 (rTree l k).2.2).1], (rRes l (rTree l k).2.1 (rTree l k).2.2).2)

theorem buildTree_succ (ns : List Nat) (k : Nat) : buildTree ns (k + 1) = buildTree ns k ++ [resOf ns k] := by
  unfold buildTree; rw [List.range_succ, List.map_append]; rfl
theorem buildTree_len (ns : List Nat) (k : Nat) : (buildTree ns k).length = k := by simp [buildTree]
theorem resOf_append {ns ms : List Nat} {i : Nat} (h : 5 * i + 5 ≤ ns.length) : resOf (ns ++ ms) i = resOf ns i := by
  unfold resOf
  simp only [List.getD_eq_getElem?_getD]
  rw [List.getElem?_append_left (by omega), List.getElem?_append_left (by omega), List.getElem?_append_left (by omega), List.getElem?_append_left (by omega), List.getElem?_append_left (by omega)]
theorem buildTree_append {ns ms : List Nat} {k : Nat} (h : 5 * k ≤ ns.length) : buildTree (ns ++ ms) k = buildTree ns k := by
  unfold buildTree
  refine List.map_congr_left fun i hi => resOf_append ?_
  rw [List.mem_range] at hi
  omega
theorem seqGo_prefix {l : List UInt8} {m j : Nat} {ns : List Nat} {a : Nat} (h : seqGo l m = some (ns, a)) (hj : j ≤ m) : ∃ b, seqGo l j = some (ns.take j, b) := by
  induction m generalizing ns a with
  | zero =>
    obtain rfl : j = 0 := by omega
    exact ⟨0, by rw [seqGo]; simp⟩
  | succ m ih =>
    by_cases e : j = m + 1
    · subst e
      exact ⟨a, by rw [h, List.take_of_length_le (by rw [(seqGo_inv h).1]; exact Nat.le_refl _)]⟩
    · rw [seqGo] at h
      obtain ⟨⟨ms, b⟩, hq, h2⟩ := Option.bind_eq_some_iff.1 h
      obtain ⟨c, hc⟩ := ih hq (by omega)
      refine ⟨c, ?_⟩
      dsimp only at h2
      split at h2
      · cases h2
      · cases h2
        rw [hc, List.take_append_of_le_length (by rw [(seqGo_inv hq).1]; omega)]
theorem rFlag_ok {l : List UInt8} {a : Nat} {b : Bool} (h : (rFlag l a b).2.2 = false) : (rNum l a b).2.2 = false := by
  unfold rFlag at h
  simp only [Bool.or_eq_false_iff] at h
  exact h.1
theorem rNum_bad' {l : List UInt8} {a : Nat} {b : Bool} (h : (rNum l a b).2.2 = false) : b = false := by
  unfold rNum at h
  split at h
  · cases h
  · rename_i hc
    simp at hc
    exact hc.1
theorem rNum_eta (l : List UInt8) (a : Nat) (b : Bool) (h : (rNum l a b).2.2 = false) : rNum l a b = ((rNum l a b).1, (rNum l a b).2.1, false) := by
  rw [← h]
/-- Five numbers, read well. -/
theorem rRes_seq {l : List UInt8} {m a : Nat} {b : Bool} {ns : List Nat} (hs : seqGo l m = some (ns, a)) (h : (rRes l a b).2.2 = false) :
    b = false ∧ ∃ n0 n1 n2 n3 n4 : Nat, seqGo l (m + 5) = some (ns ++ [n0, n1, n2, n3, n4], (rRes l a b).2.1) ∧ (rRes l a b).1 = ⟨decide (n0 = 1), (n1 : Int) - 1, ⟨(n2 : Int), (n3 : Int), (n4 : Int)⟩⟩ := by
  unfold rRes at h ⊢
  dsimp only at h ⊢
  have h4 := rNum_bad' h
  have h3 := rNum_bad' h4
  have h2 := rNum_bad' h3
  have h1 := rNum_bad' h2
  have h0 := rFlag_ok h1
  have hb := rNum_bad' h0
  refine ⟨hb, (rNum l a b).1, _, _, _, _, ?_, rfl⟩
  have s1 := rNum_seq hs (rNum_eta l a b h0)
  have e1 : (rFlag l a b).2.1 = (rNum l a b).2.1 := rfl
  have s2 := rNum_seq s1 (show rNum l (rNum l a b).2.1 (rFlag l a b).2.2 = _ from rNum_eta _ _ _ h2)
  have s3 := rNum_seq s2 (rNum_eta _ _ _ h3)
  have s4 := rNum_seq s3 (rNum_eta _ _ _ h4)
  have s5 := rNum_seq s4 (rNum_eta _ _ _ h)
  rw [s5]
  simp [e1]
theorem rTree_seq {l : List UInt8} : ∀ {k : Nat}, (rTree l k).2.2 = false → ∃ ns, seqGo l (5 * k) = some (ns, (rTree l k).2.1) ∧ (rTree l k).1 = buildTree ns k
  | 0, _ => ⟨[], rfl, rfl⟩
  | k + 1, h => by
    rw [rTree] at h
    dsimp only at h
    have hb : (rTree l k).2.2 = false := by
      unfold rRes at h
      dsimp only at h
      exact rNum_bad' (rFlag_ok (rNum_bad' (rNum_bad' (rNum_bad' (rNum_bad' h)))))
    obtain ⟨ns, h1, h2⟩ := rTree_seq hb
    obtain ⟨_, n0, n1, n2, n3, n4, h3, h4⟩ := rRes_seq h1 h
    have hl := (seqGo_inv h1).1
    refine ⟨ns ++ [n0, n1, n2, n3, n4], by rw [show 5 * (k + 1) = 5 * k + 5 by omega, h3]; rfl, ?_⟩
    rw [rTree, buildTree_succ, buildTree_append (by omega), ← h2]
    dsimp only
    rw [h4]
    congr 2
    unfold resOf
    simp only [List.getD_eq_getElem?_getD]
    rw [List.getElem?_append_right (by omega), List.getElem?_append_right (by omega), List.getElem?_append_right (by omega), List.getElem?_append_right (by omega), List.getElem?_append_right (by omega), hl]
    have e0 : 5 * k - 5 * k = 0 := by omega
    have e1 : 5 * k + 1 - 5 * k = 1 := by omega
    have e2 : 5 * k + 2 - 5 * k = 2 := by omega
    have e3 : 5 * k + 3 - 5 * k = 3 := by omega
    have e4 : 5 * k + 4 - 5 * k = 4 := by omega
    rw [e0, e1, e2, e3, e4]
    rfl
theorem take5 {α : Type} (ns : List α) (k : Nat) (d : α) (h : k < ns.length) : ns.take (k + 1) = ns.take k ++ [ns.getD k d] := by
  rw [List.take_succ_eq_append_getElem h, List.getD_eq_getElem?_getD, List.getElem?_eq_getElem h]; rfl
theorem seq_rRes {l : List UInt8} {ns : List Nat} {a k b : Nat} (hs : seqGo l 25 = some (ns, a)) (hk : k < 5) (hf : ns.getD (5 * k) 0 ≤ 1) (hp : seqGo l (5 * k) = some (ns.take (5 * k), b)) :
    ∃ c, seqGo l (5 * (k + 1)) = some (ns.take (5 * (k + 1)), c) ∧ rRes l b false = (resOf ns k, c, false) := by
  have hl := (seqGo_inv hs).1
  obtain ⟨b1, p1⟩ := seqGo_prefix hs (show 5 * k + 1 ≤ 25 by omega)
  obtain ⟨b2, p2⟩ := seqGo_prefix hs (show 5 * k + 1 + 1 ≤ 25 by omega)
  obtain ⟨b3, p3⟩ := seqGo_prefix hs (show 5 * k + 2 + 1 ≤ 25 by omega)
  obtain ⟨b4, p4⟩ := seqGo_prefix hs (show 5 * k + 3 + 1 ≤ 25 by omega)
  obtain ⟨b5, p5⟩ := seqGo_prefix hs (show 5 * k + 4 + 1 ≤ 25 by omega)
  obtain ⟨n0, e0, r0⟩ := seq_rNum hp p1
  obtain ⟨n1, e1, r1⟩ := seq_rNum p1 p2
  obtain ⟨n2, e2, r2⟩ := seq_rNum p2 p3
  obtain ⟨n3, e3, r3⟩ := seq_rNum p3 p4
  obtain ⟨n4, e4, r4⟩ := seq_rNum p4 p5
  rw [take5 ns _ 0 (by omega)] at e0
  rw [take5 ns (5 * k + 1) 0 (by omega)] at e1
  rw [take5 ns (5 * k + 2) 0 (by omega)] at e2
  rw [take5 ns (5 * k + 3) 0 (by omega)] at e3
  rw [take5 ns (5 * k + 4) 0 (by omega)] at e4
  have f0 := List.append_cancel_left e0
  have f1 := List.append_cancel_left e1
  have f2 := List.append_cancel_left e2
  have f3 := List.append_cancel_left e3
  have f4 := List.append_cancel_left e4
  simp only [List.cons.injEq, and_true] at f0 f1 f2 f3 f4
  subst f0 f1 f2 f3 f4
  refine ⟨b5, by rw [show 5 * (k + 1) = 5 * k + 4 + 1 by omega]; exact p5, ?_⟩
  have hfl : rFlag l b false = (decide (ns.getD (5 * k) 0 = 1), b1, false) := by
    unfold rFlag
    rw [r0]
    simp only [Bool.false_or, Prod.mk.injEq, true_and, decide_eq_false_iff_not]
    omega
  unfold rRes
  dsimp only
  rw [hfl]
  dsimp only
  rw [r1]
  dsimp only
  rw [r2]
  dsimp only
  rw [r3]
  dsimp only
  rw [r4]
  rfl
theorem seq_rTree {l : List UInt8} {ns : List Nat} {a : Nat} (hs : seqGo l 25 = some (ns, a)) (hf : ∀ k, k < 5 → ns.getD (5 * k) 0 ≤ 1) : ∀ {k : Nat}, k ≤ 5 → ∃ b, seqGo l (5 * k) = some (ns.take (5 * k), b) ∧ rTree l k = (buildTree ns k, b, false)
  | 0, _ => ⟨0, by rw [Nat.mul_zero, List.take_zero]; rfl, rfl⟩
  | k + 1, hk => by
    obtain ⟨b, h1, h2⟩ := seq_rTree hs hf (k := k) (by omega)
    obtain ⟨c, h3, h4⟩ := seq_rRes hs (by omega) (hf k (by omega)) h1
    refine ⟨c, h3, ?_⟩
    rw [rTree, h2, buildTree_succ]
    dsimp only
    rw [h4]
theorem flagI_in (b : Bool) : flagI b = 0 ∨ flagI b = 1 := by cases b <;> simp [flagI]
/-- The numbers of a right tree. -/
def treeNats (t : List Res) : List Nat := t.flatMap fun x => (resNums x).map Int.toNat
theorem res_nats {t : List Res} (h : treeOk t = true) {k : Nat} {x : Res} (hx : t[k]? = some x) : ints ((resNums x).map Int.toNat) = resNums x ∧ ∀ n ∈ (resNums x).map Int.toNat, inVar n := by
  have hp := live_par h hx
  have hb := amtOk_iff.1 ((tree_places h).2 k x hx).1
  have hf := flagI_in x.live
  unfold resNums ints inVar
  simp only [List.map_cons, List.map_nil, List.cons.injEq, and_true, List.mem_cons, List.not_mem_nil, or_false, forall_eq_or_imp, forall_eq]
  omega
theorem treeShow_nats {t : List Res} (h : treeOk t = true) : treeShow t = varsL (ints (treeNats t)) ∧ (∀ n ∈ treeNats t, inVar n) ∧ (treeNats t).length = 25 := by
  have key : ∀ (u : List Res), (∀ x ∈ u, ints ((resNums x).map Int.toNat) = resNums x ∧ ∀ n ∈ (resNums x).map Int.toNat, inVar n) → treeShow u = varsL (ints (treeNats u)) ∧ (∀ n ∈ treeNats u, inVar n) ∧ (treeNats u).length = 5 * u.length := by
    intro u
    induction u with
    | nil => intro _; exact ⟨by simp [treeShow, treeNats, ints, varsL], by simp [treeNats], by simp [treeNats]⟩
    | cons y u ih =>
      intro hu
      obtain ⟨h1, h2⟩ := hu y (List.mem_cons_self ..)
      obtain ⟨i1, i2, i3⟩ := ih fun x hx => hu x (List.mem_cons_of_mem _ hx)
      refine ⟨?_, ?_, ?_⟩
      · show resShow y ++ treeShow u = _
        have : ints (treeNats (y :: u)) = resNums y ++ ints (treeNats u) := by
          unfold treeNats
          rw [List.flatMap_cons]
          unfold ints at *
          rw [List.map_append, h1]
        rw [this, i1]
        unfold varsL resShow varsL
        rw [List.flatMap_append]
      · intro n hn
        unfold treeNats at hn
        rw [List.flatMap_cons] at hn
        rcases List.mem_append.1 hn with hn | hn
        · exact h2 n hn
        · exact i2 n hn
      · unfold treeNats at *
        rw [List.flatMap_cons, List.length_append, i3, List.length_cons]
        simp [resNums]
        omega
  have h5 := (tree_parts h).1
  obtain ⟨k1, k2, k3⟩ := key t fun x hx => by
    obtain ⟨k, hk⟩ := List.mem_iff_getElem?.1 hx
    exact res_nats h hk
  exact ⟨k1, k2, by rw [k3, h5]⟩
theorem treeNats_flag {t : List Res} (h5 : t.length = 5) {k : Nat} (hk : k < 5) : (treeNats t).getD (5 * k) 0 ≤ 1 := by
  obtain ⟨x0, x1, x2, x3, x4, rfl⟩ := five h5
  have h0 := flagI_in x0.live
  have h1 := flagI_in x1.live
  have h2 := flagI_in x2.live
  have h3 := flagI_in x3.live
  have h4 := flagI_in x4.live
  match k, hk with
  | 0, _ => show (flagI x0.live).toNat ≤ 1; omega
  | 1, _ => show (flagI x1.live).toNat ≤ 1; omega
  | 2, _ => show (flagI x2.live).toNat ≤ 1; omega
  | 3, _ => show (flagI x3.live).toNat ≤ 1; omega
  | 4, _ => show (flagI x4.live).toNat ≤ 1; omega
theorem show_ne {l : List UInt8} {ns : List Nat} {a : Nat} {t : List Res} (hs : seqGo l 25 = some (ns, a)) (h : showTree t = l) : treeOk t = true ∧ treeShow t = l := by
  unfold showTree at h
  cases hok : treeOk t
  · rw [hok, if_neg (by decide)] at h
    subst h
    obtain ⟨_, h2, _, _, h5⟩ := seqGo_inv hs
    simp at h2
    omega
  · rw [hok, if_pos rfl] at h
    exact ⟨rfl, h⟩
/-- What the program's reader makes of a text is what the reference's makes of it. -/
theorem readTree_impl (l : List UInt8) : readTree l = if (!(rTree l 5).2.2 && (treeOk (rTree l 5).1 && decide (showTree (rTree l 5).1 = l))) = true then some (rTree l 5).1 else none := by
  unfold readTree
  cases hb : (rTree l 5).2.2
  · obtain ⟨ns, h1, h2⟩ := rTree_seq hb
    rw [show 5 * 5 = 25 from rfl] at h1
    rw [h1, h2]
    simp only [Option.bind_some, Bool.not_false, Bool.true_and]
    by_cases hs : showTree (buildTree ns 5) = l
    · rw [if_pos hs, (show_ne h1 hs).1, decide_eq_true hs]; rfl
    · rw [if_neg hs, decide_eq_false hs, Bool.and_false]; rfl
  · rw [if_neg (by simp)]
    cases hq : seqGo l 25 with
    | none => rfl
    | some q =>
      obtain ⟨ns, a⟩ := q
      simp only [Option.bind_some]
      by_cases hs : showTree (buildTree ns 5) = l
      · exfalso
        obtain ⟨h1, h2⟩ := show_ne hq hs
        obtain ⟨k1, k2, k3⟩ := treeShow_nats h1
        have h3 := seqGo_show l (treeNats (buildTree ns 5)) [] [] (by rw [List.append_nil, List.append_nil, ← k1, h2]) k2
        rw [k3, hq] at h3
        simp only [Option.some.injEq, Prod.mk.injEq] at h3
        obtain ⟨b, _, h4⟩ := seq_rTree hq (fun k hk => by rw [h3.1]; exact treeNats_flag (buildTree_len _ _) hk) (k := 5) (Nat.le_refl _)
        rw [h4] at hb
        cases hb
      · rw [if_neg hs]
theorem readTree_ok {l : List UInt8} {t : List Res} (h : readTree l = some t) : treeOk t = true ∧ treeShow t = l ∧ t.length = 5 := by
  unfold readTree at h
  obtain ⟨⟨ns, a⟩, hq, h2⟩ := Option.bind_eq_some_iff.1 h
  dsimp only at h2
  split at h2
  · rename_i hs
    cases h2
    obtain ⟨h3, h4⟩ := show_ne hq hs
    exact ⟨h3, h4, (tree_parts h3).1⟩
  · cases h2
end Go.Proofs.Ytabbncoihmhocaa

namespace Go.Proofs.Ytabbncoihmhocaa
open Go.RowKit


end Go.Proofs.Ytabbncoihmhocaa

namespace Go.Proofs.Ytabbncoihmhocaa
open Go.RowKit


/-- The cells of element k of what was marked. -/
theorem Rd.markedInt {w : World} {a : Option Addr} {q0 q : Int} {n k : Nat} (h : Rd w a (cnt q0 (n))) (hk : k < n) (hq : q = q0 + ((k : Nat) : Int)) :
    ∃ b o, a = some ⟨b, o, none⟩ ∧ b < w.heap.size ∧ w.cell? ⟨b, o + k, none⟩ = some (.int .i64 (q)) := by
  rcases h with h | ⟨b, o, ha, hlt, hc⟩
  · have hl := cnt_length q0 (n)
    rw [h, List.length_nil] at hl
    omega
  · subst hq
    refine ⟨b, o, ha, hlt, ?_⟩
    · refine (hc (k) _ (cnt_get q0 (n) _ (by omega))).trans ?_
      first | rfl | (congr 2; omega)

end Go.Proofs.Ytabbncoihmhocaa

namespace Go.Proofs.Ytabbncoihmhocaa
open Go.RowKit


end Go.Proofs.Ytabbncoihmhocaa

namespace Go.Proofs.Ytabbncoihmhocaa
open Go.RowKit


/-- The cells of element k of what was marked. -/
theorem Rd.markedMsg {w : World} {a : Option Addr} {q0 q : Int} {n k : Nat} (h : Rd w a (cnt q0 (n * 2))) (hk : k < n) (hq : q = q0 + ((k * 2 : Nat) : Int)) :
    ∃ b o, a = some ⟨b, o, none⟩ ∧ b < w.heap.size ∧ w.cell? ⟨b, o + k * 2, none⟩ = some (.int .i64 (q)) ∧ w.cell? ⟨b, o + k * 2 + 1, none⟩ = some (.int .i64 (q + 1)) := by
  rcases h with h | ⟨b, o, ha, hlt, hc⟩
  · have hl := cnt_length q0 (n * 2)
    rw [h, List.length_nil] at hl
    omega
  · subst hq
    refine ⟨b, o, ha, hlt, ?_, ?_⟩
    · refine (hc (k * 2) _ (cnt_get q0 (n * 2) _ (by omega))).trans ?_
      first | rfl | (congr 2; omega)
    · refine (hc (k * 2 + 1) _ (cnt_get q0 (n * 2) _ (by omega))).trans ?_
      first | rfl | (congr 2; omega)

end Go.Proofs.Ytabbncoihmhocaa

namespace Go.Proofs.Ytabbncoihmhocaa
open Go.RowKit

/-- A thing whose lists have been marked. -/
structure ObjMarked (w : World) (base : Nat) (o : Thing) (vl vd vq : Value) (q : Int) : Prop where
  l : w.ownsRow base 3 1 vl o.links.length (cnt q o.links.length)
  d : w.ownsRow base 3 1 vd o.data.length (cnt (q + (o.links.length : Int)) o.data.length)
  q : w.ownsRow base 67 2 vq o.queue.length (cnt (q + (o.links.length : Int) + (o.data.length : Int)) (o.queue.length * 2))
def mine (vl vd vq : Value) (k : Nat) : Prop := vl.ownBlock = some k ∨ vd.ownBlock = some k ∨ vq.ownBlock = some k
theorem ObjMarked.kept {P : Nat → Prop} {w w' : World} {base : Nat} {o : Thing} {vl vd vq : Value} {q : Int} (h : ObjMarked w base o vl vd vq q) (k : KeptP P w w') (hP : ∀ n, mine vl vd vq n → ¬ P n) : ObjMarked w' base o vl vd vq q :=
  ⟨k.owns h.l fun n e => hP n (.inl e), k.owns h.d fun n e => hP n (.inr (.inl e)), k.owns h.q fun n e => hP n (.inr (.inr e))⟩
theorem ObjOwn.kept {P : Nat → Prop} {w w' : World} {base : Nat} {o : Thing} {vl vd vq : Value} (h : ObjOwn w base o vl vd vq) (k : KeptP P w w') (hP : ∀ n, mine vl vd vq n → ¬ P n) : ObjOwn w' base o vl vd vq :=
  ⟨k.owns h.l fun n e => hP n (.inl e), k.owns h.d fun n e => hP n (.inr (.inl e)), k.owns h.q fun n e => hP n (.inr (.inr e)), h.ld, h.lq, h.dq⟩
theorem ObjOwn.lt {w : World} {base : Nat} {o : Thing} {vl vd vq : Value} (h : ObjOwn w base o vl vd vq) {n : Nat} (hn : mine vl vd vq n) : base ≤ n ∧ n < w.heap.size := by
  rcases hn with e | e | e
  · exact h.l.lt n e
  · exact h.d.lt n e
  · exact h.q.lt n e
theorem ObjMarked.lt {w : World} {base : Nat} {o : Thing} {vl vd vq : Value} {q : Int} (h : ObjMarked w base o vl vd vq q) {n : Nat} (hn : mine vl vd vq n) : base ≤ n ∧ n < w.heap.size := by
  rcases hn with e | e | e
  · exact h.l.lt n e
  · exact h.d.lt n e
  · exact h.q.lt n e
theorem ObjOwn.is {w : World} {base : Nat} {o : Thing} {vl vd vq : Value} (h : ObjOwn w base o vl vd vq) : ThIs w o vl vd vq := ⟨owns_sl h.l, owns_sl h.d, owns_sl h.q⟩
theorem ObjOwn.below {w w' : World} {base : Nat} {o : Thing} {vl vd vq : Value} (h : ObjOwn w base o vl vd vq) (hb : Below w.heap.size w w') : ObjOwn w' base o vl vd vq := h.kept (P := fun _ => False) (KeptP.of_below hb) (fun _ _ e => e)
theorem ObjMarked.below {w w' : World} {base : Nat} {o : Thing} {vl vd vq : Value} {q : Int} (h : ObjMarked w base o vl vd vq q) (hb : Below w.heap.size w w') : ObjMarked w' base o vl vd vq q := h.kept (P := fun _ => False) (KeptP.of_below hb) (fun _ _ e => e)
end Go.Proofs.Ytabbncoihmhocaa

namespace Go.Proofs.Ytabbncoihmhocaa
open Go.RowKit

def thingMarks (o : Thing) : Nat := 10 + o.links.length + o.data.length + o.queue.length * 2
def qAt (q : Int) (l : List Thing) (k : Nat) : Int := q + (((l.take k).map thingMarks).sum : Nat)
theorem qAt_succ {q : Int} {l : List Thing} {k : Nat} {x : Thing} (hx : l[k]? = some x) : qAt q l (k + 1) = qAt q l k + (thingMarks x : Int) := by
  unfold qAt
  rw [take_snoc hx, List.map_append, List.sum_append]
  simp
  omega
theorem sum_take_le (l : List Nat) (k : Nat) : (l.take k).sum ≤ l.sum := by
  conv => rhs; rw [← List.take_append_drop k l, List.sum_append]
  omega
theorem qAt_le (q : Int) (l : List Thing) (k : Nat) : q ≤ qAt q l k ∧ qAt q l k ≤ qAt q l l.length := by
  unfold qAt
  rw [List.take_length, List.map_take]
  have := sum_take_le (l.map thingMarks) k
  omega
def marks10 (q : Int) : List Value := [.int .i64 q, .int .i64 (q + 1), .int .i64 (q + 1 + 1), .int .i64 (q + 1 + 1 + 1), .int .i64 (q + 1 + 1 + 1 + 1), .int .i64 (q + 1 + 1 + 1 + 1 + 1), .int .i64 (q + 1 + 1 + 1 + 1 + 1 + 1), .int .i64 (q + 1 + 1 + 1 + 1 + 1 + 1 + 1), .int .i64 (q + 1 + 1 + 1 + 1 + 1 + 1 + 1 + 1), .bool ((q + 1 + 1 + 1 + 1 + 1 + 1 + 1 + 1 + 1) % 3 == 0)]
theorem marks10_len (q : Int) : (marks10 q).length = 10 := rfl
/-- The cells of a thing that is marked from q on. -/
def markThing (q : Int) (vl vd vq : Value) : List Value := marks10 q ++ [vl, vd, vq]
def mixCells : Thing × Option Int → List Value → List Value
  | (o, none), vs => thingCells o vs
  | (_, some q), [a, b, c] => markThing q a b c
  | _, _ => []
def markOwnL (w : World) (base : Nat) (x : Thing) (q : Int) (vs : List Value) : Prop := ∃ vl vd vq, vs = [vl, vd, vq] ∧ ObjMarked w base x vl vd vq (q + 1 + 1 + 1 + 1 + 1 + 1 + 1 + 1 + 1 + 1)
def mixOwn (w : World) (b : Nat) (x : Thing × Option Int) (vs : List Value) : Prop := match x.2 with
  | none => thingOwnL w b x.1 vs
  | some q => markOwnL w b x.1 q vs
theorem markOwn_kept {P : Nat → Prop} {w w' : World} {b : Nat} {x : Thing} {q : Int} {vs : List Value} (h : markOwnL w b x q vs) (k : KeptP P w w') (hg : ∀ g, mineL vs g → ¬ P g) : markOwnL w' b x q vs := by
  obtain ⟨vl, vd, vq, rfl, h⟩ := h
  exact ⟨vl, vd, vq, rfl, k.owns h.l (fun g e => hg g (mine3.2 (.inl e))), k.owns h.d (fun g e => hg g (mine3.2 (.inr (.inl e)))), k.owns h.q (fun g e => hg g (mine3.2 (.inr (.inr e))))⟩
theorem markOwn_lt {w : World} {b : Nat} {x : Thing} {q : Int} {vs : List Value} (h : markOwnL w b x q vs) (g : Nat) (hg : mineL vs g) : b ≤ g ∧ g < w.heap.size := by
  obtain ⟨vl, vd, vq, rfl, h⟩ := h
  rcases mine3.1 hg with e | e | e
  · exact h.l.lt g e
  · exact h.d.lt g e
  · exact h.q.lt g e
theorem markOwn_mono {w : World} {b b' : Nat} {x : Thing} {q : Int} {vs : List Value} (h : markOwnL w b x q vs) (hb : b' ≤ b) : markOwnL w b' x q vs := by
  obtain ⟨vl, vd, vq, rfl, h⟩ := h
  exact ⟨vl, vd, vq, rfl, owns_mono h.l hb, owns_mono h.d hb, owns_mono h.q hb⟩
theorem markOwn_len {w : World} {b : Nat} {x : Thing} {q : Int} {vs : List Value} (h : markOwnL w b x q vs) : (mixCells (x, some q) vs).length = 13 := by
  obtain ⟨vl, vd, vq, rfl, h⟩ := h
  rfl
def KMix : Kind (Thing × Option Int) where
  cells := mixCells
  s := 13
  T := 34
  own := mixOwn
  len := fun {w b x vs} h => match x, h with
    | (_, none), h9 => KThing.len h9
    | (_, some _), h9 => markOwn_len h9
  kept := fun {P w w' b x vs} h k hg => match x, h with
    | (o, none), h9 => KThing.kept (x := o) h9 k hg
    | (_, some _), h9 => markOwn_kept h9 k hg
  lt := fun {w b x vs} h g hg => match x, h with
    | (o, none), h9 => KThing.lt (x := o) h9 g hg
    | (_, some _), h9 => markOwn_lt h9 g hg
  mono := fun {w b b' x vs} h hb => match x, h with
    | (o, none), h9 => KThing.mono (x := o) h9 hb
    | (_, some _), h9 => markOwn_mono h9 hb
/-- The first k are marked. -/
def mixList (q : Int) (l : List Thing) (k : Nat) : List (Thing × Option Int) := (List.range l.length).map fun i => (l.getD i (noThing 0), if i < k then some (qAt q l i) else none)
theorem mixList_len (q : Int) (l : List Thing) (k : Nat) : (mixList q l k).length = l.length := by unfold mixList; simp
theorem mixList_get {q : Int} {l : List Thing} {k i : Nat} {x : Thing} (hx : l[i]? = some x) : (mixList q l k)[i]? = some (x, if i < k then some (qAt q l i) else none) := by
  have hi := (List.getElem?_eq_some_iff.1 hx).1
  unfold mixList
  rw [List.getElem?_map, List.getElem?_range hi, Option.map_some]
  rw [List.getD_eq_getElem?_getD, hx]
  rfl
theorem mixList_next {q : Int} {l : List Thing} {k : Nat} {x : Thing} (hx : l[k]? = some x) : mixList q l (k + 1) = (mixList q l k).set k (x, some (qAt q l k)) := by
  have hk := (List.getElem?_eq_some_iff.1 hx).1
  apply List.ext_getElem?
  intro i
  by_cases hi : i < l.length
  · obtain ⟨y, hy⟩ := some_at (l := l) (k := i) hi
    rw [mixList_get hy, List.getElem?_set]
    by_cases hik : k = i
    · subst hik
      rw [hx] at hy
      cases hy
      rw [if_pos (show k < k + 1 by omega), if_pos rfl, if_pos (by rw [mixList_len]; exact hi)]
    · rw [if_neg hik, mixList_get hy]
      by_cases h1 : i < k
      · rw [if_pos h1, if_pos (by omega)]
      · rw [if_neg h1, if_neg (by omega)]
  · rw [List.getElem?_eq_none (by rw [mixList_len]; omega), List.getElem?_eq_none (by rw [List.length_set, mixList_len]; omega)]
theorem mixList_zero (q : Int) (l : List Thing) : mixList q l 0 = l.map fun o => (o, none) := by
  apply List.ext_getElem?
  intro i
  by_cases hi : i < l.length
  · obtain ⟨y, hy⟩ := some_at (l := l) (k := i) hi
    rw [mixList_get hy, List.getElem?_map, hy]
    rfl
  · rw [List.getElem?_eq_none (by rw [mixList_len]; omega), List.getElem?_eq_none (by simp; omega)]
theorem flatC_mix (l : List Thing) (rs : List (List Value)) : flatC KMix (l.map fun o => (o, none)) rs = flatC KThing l rs := by
  unfold flatC
  rw [List.zipWith_map_left]
  rfl
theorem ThingsOwn.mix {w : World} {base n : Nat} {v : Value} {l : List Thing} {rs : List (List Value)} (h : RowsOwn KThing w base v n l rs []) (q : Int) : RowsOwn KMix w base v n (mixList q l 0) rs [] := by
  rw [mixList_zero]
  refine ⟨?_, by rw [List.length_map]; exact h.len, ?_, h.rise, h.off⟩
  · rw [flatC_mix]; exact h.row
  · intro k x vs hx hv
    rw [List.getElem?_map] at hx
    obtain ⟨o, ho, rfl⟩ := Option.map_eq_some_iff.1 hx
    exact h.el k o vs ho hv
section
variable {α : Type} {K : Kind α}
theorem flatC_set {l : List α} {rs : List (List Value)} (h : rs.length = l.length) (he : ∀ (k : Nat) (x : α) (vs : List Value), l[k]? = some x → rs[k]? = some vs → (K.cells x vs).length = K.s) {k : Nat} {x x' : α} {vs : List Value} (hx : l[k]? = some x) (hv : rs[k]? = some vs) :
    flatC K (l.set k x') rs = (flatC K l rs).take (k * K.s) ++ K.cells x' vs ++ (flatC K l rs).drop ((k + 1) * K.s) := by
  induction l generalizing rs k with
  | nil => simp at hx
  | cons y l ih =>
    match rs, h with
    | us :: rs, h =>
      have h0 := he 0 y us rfl rfl
      cases k with
      | zero =>
        simp at hx hv
        subst hx hv
        unfold flatC
        rw [List.set_cons_zero, List.zipWith_cons_cons, List.zipWith_cons_cons, List.flatten_cons, List.flatten_cons, Nat.zero_mul, List.take_zero, Nat.zero_add, Nat.one_mul, ← h0, List.drop_left, List.nil_append]
      | succ k =>
        have h1 := ih (rs := rs) (by simpa using h) (fun k z zs hz hs => he (k + 1) z zs (by simpa using hz) (by simpa using hs)) (k := k) (by simpa using hx) (by simpa using hv)
        unfold flatC at h1 ⊢
        rw [List.set_cons_succ, List.zipWith_cons_cons, List.zipWith_cons_cons, List.flatten_cons, List.flatten_cons, h1]
        have e1 : (k + 1) * K.s = (K.cells y us).length + k * K.s := by rw [h0, Nat.add_mul]; omega
        have e2 : (k + 1 + 1) * K.s = (K.cells y us).length + (k + 1) * K.s := by rw [h0, Nat.add_mul (k + 1)]; omega
        have t1 : List.take ((k + 1) * K.s) (K.cells y us ++ (List.zipWith K.cells l rs).flatten) = K.cells y us ++ List.take (k * K.s) (List.zipWith K.cells l rs).flatten := by rw [e1, List.take_length_add_append]
        have t2 : List.drop ((k + 1 + 1) * K.s) (K.cells y us ++ (List.zipWith K.cells l rs).flatten) = List.drop ((k + 1) * K.s) (List.zipWith K.cells l rs).flatten := by rw [e2, List.drop_length_add_append]
        rw [t1, t2, List.append_assoc, List.append_assoc, List.append_assoc]
/-- One element has turned. -/
theorem RowsOwn.turn {P : Nat → Prop} {w w' : World} {base n : Nat} {v : Value} {l : List α} {rs : List (List Value)} {k : Nat} {x x' : α} {vs : List Value} (h : RowsOwn K w base v n l rs []) (hx : l[k]? = some x) (hv : rs[k]? = some vs)
    (hr : w'.ownsRow base K.T K.s v n (flatC K (l.set k x') rs)) (ho : K.own w' base x' vs) (hk : KeptP P w w') (hP : ∀ (i : Nat) (us : List Value), i ≠ k → rs[i]? = some us → ∀ g, mineL us g → ¬ P g) : RowsOwn K w' base v n (l.set k x') rs [] := by
  refine ⟨by simpa using hr, by rw [List.length_set]; exact h.len, ?_, h.rise, h.off⟩
  intro i y us hy hu
  by_cases hik : i = k
  · subst hik
    rw [List.getElem?_set_self (by exact (List.getElem?_eq_some_iff.1 hx).1)] at hy
    rw [hv] at hu
    cases hy
    cases hu
    exact ho
  · rw [List.getElem?_set_ne (fun e => hik e.symm)] at hy
    exact K.kept (h.el i y us hy hu) hk (hP i us hik hu)
end
/-- The row behind the ten stores. -/
theorem row_marked {w : World} {base g cap n k : Nat} {q : Int} {l : List Thing} {rs : List (List Value)} {x : Thing} {vl vd vq : Value} (h : RowsOwn KMix w base (.slice (some ⟨g, 0, none⟩) n cap) n (mixList 1 l k) rs []) (hx : l[k]? = some x) (hv : rs[k]? = some [vl, vd, vq]) :
    (setCells w g (k * 13) (marks10 q)).ownsRow base 34 13 (.slice (some ⟨g, 0, none⟩) n cap) n (flatC KMix ((mixList 1 l k).set k (x, some q)) rs) := by
  have hm := mixList_get (q := 1) (k := k) hx
  rw [if_neg (Nat.lt_irrefl k)] at hm
  have he : ∀ (i : Nat) (y : Thing × Option Int) (us : List Value), (mixList 1 l k)[i]? = some y → rs[i]? = some us → (KMix.cells y us).length = KMix.s := fun i y us hy hu => KMix.len (h.el i y us hy hu)
  have hl := flatC_len KMix h.len he
  have hlen : (mixList 1 l k).length = l.length := mixList_len _ _ _
  have hk := (List.getElem?_eq_some_iff.1 hx).1
  have hs : KMix.s = 13 := rfl
  rw [hlen, hs] at hl
  have hmul : (k + 1) * 13 ≤ l.length * 13 := Nat.mul_le_mul_right _ hk
  have h1 := owns_setCells (marks10 q) (k * 13) h.row (by rw [List.append_nil, hl, marks10_len]; omega)
  rw [List.append_nil] at h1
  have hset := flatC_set (K := KMix) (x' := (x, some q)) h.len he hm hv
  have hsame := flatC_set (K := KMix) (x' := (x, none)) h.len he hm hv
  have hid : (mixList 1 l k).set k (x, none) = mixList 1 l k := by
    obtain ⟨hk', e⟩ := List.getElem?_eq_some_iff.1 hm
    rw [← e, List.set_getElem_self]
  rw [hid, hs] at hsame
  rw [hs] at hset
  rw [hset]
  have hd : (flatC KMix (mixList 1 l k) rs).drop (k * 13 + 10) = [vl, vd, vq] ++ (flatC KMix (mixList 1 l k) rs).drop ((k + 1) * 13) := by
    have e0 : ((flatC KMix (mixList 1 l k) rs).take (k * 13)).length = k * 13 := by rw [List.length_take, hl]; omega
    conv => lhs; rw [hsame]
    rw [List.append_assoc, List.drop_append, e0, List.drop_of_length_le (by rw [e0]; omega), List.nil_append, show k * 13 + 10 - k * 13 = 10 by omega]
    rfl
  rw [show k * 13 + (marks10 q).length = k * 13 + 10 from rfl, hd] at h1
  have e9 : KMix.cells (x, some q) [vl, vd, vq] = marks10 q ++ [vl, vd, vq] := rfl
  rw [e9]
  simp only [List.append_assoc] at h1 ⊢
  exact h1
theorem KeptP.stores {w : World} {g j : Nat} (vs : List Value) : KeptP (fun q => q = g) w (setCells w g j vs) := (KeptP.of_grown (grown_setCells vs j (World.grownBy.refl w (some g)))).mono (fun k _ e => by simpa using e.symm)
theorem cell_setCells_over {g i : Nat} : ∀ {vs : List Value} {w : World} {j : Nat}, j + vs.length ≤ i → (setCells w g j vs).cell? ⟨g, i, none⟩ = w.cell? ⟨g, i, none⟩
  | [], _, _, _ => rfl
  | v :: vs, w, j, h => by
    rw [setCells, cell_setCells_over (by simp at h; omega)]
    apply World.cell?_setCell_other
    intro e
    injection e with _ e2
    simp at h
    omega
theorem cell_of_block {w w' : World} {g : Nat} (h : w'.heap[g]? = w.heap[g]?) (i : Nat) : w'.cell? ⟨g, i, none⟩ = w.cell? ⟨g, i, none⟩ := by
  unfold World.cell?
  dsimp only
  rw [h]

end Go.Proofs.Ytabbncoihmhocaa

namespace Go.Proofs.Ytabbncoihmhocaa
open Go.RowKit

def rdThings (l : List UInt8) : Nat → Option (List Thing × Nat)
  | 0 => some ([], 0)
  | k + 1 => (rdThings l k).bind fun p => (readThing (l.drop p.2)).map fun q => (p.1 ++ [q.1], p.2 + q.2)
def readArena (l : List UInt8) : Option (List Thing) := (rdThings l 10).bind fun p => if (decide (p.2 = l.length) && arenaOk p.1) = true then some p.1 else none
def arenaRes (l : List UInt8) : List Thing := (readArena l).getD []
theorem rd_step {l : List UInt8} {k a n : Nat} {xs : List Thing} {o : Thing} (h : rdThings l k = some (xs, a)) (hr : readThing (l.drop a) = some (o, n)) : rdThings l (k + 1) = some (xs ++ [o], a + n) := by
  rw [rdThings, h]
  show (readThing (l.drop a)).map _ = _
  rw [hr]
  rfl
theorem rd_stop {l : List UInt8} {k a : Nat} {xs : List Thing} (h : rdThings l k = some (xs, a)) (hr : readThing (l.drop a) = none) : rdThings l (k + 1) = none := by
  rw [rdThings, h]
  show (readThing (l.drop a)).map _ = _
  rw [hr]
  rfl
theorem rd_none {l : List UInt8} {k : Nat} (h : rdThings l k = none) : ∀ {m : Nat}, k ≤ m → rdThings l m = none
  | 0, hm => by
    have : k = 0 := by omega
    subst this
    exact h
  | m + 1, hm => by
    by_cases e : k = m + 1
    · subst e; exact h
    · rw [rdThings, rd_none h (by omega)]; rfl
theorem readThing_pos {l : List UInt8} {o : Thing} {k : Nat} (h : readThing l = some (o, k)) : 0 < k := by
  unfold readThing at h
  obtain ⟨⟨hh, lk, dt, qu, d⟩, q, h2⟩ := Option.bind_eq_some_iff.1 h
  obtain ⟨p1, _⟩ := read4_le q
  dsimp only at h2
  split at h2
  · cases h2; exact p1
  · cases h2
theorem thingRes_no {l : List UInt8} {o : Thing} (h : thingRes l = (o, 0)) : readThing l = none := by
  unfold thingRes at h
  cases hr : readThing l with
  | none => rfl
  | some p =>
    rw [hr] at h
    have e : p = (o, 0) := h
    rw [e] at hr
    exact absurd (readThing_pos hr) (by omega)
theorem thingRes_yes {l : List UInt8} {o : Thing} {n : Nat} (h : thingRes l = (o, n)) (hn : n ≠ 0) : readThing l = some (o, n) := by
  unfold thingRes at h
  cases hr : readThing l with
  | none =>
    rw [hr] at h
    have e : (noThing 0, 0) = (o, n) := h
    cases e
    exact absurd rfl hn
  | some p =>
    rw [hr] at h
    have e : p = (o, n) := h
    rw [e]
theorem eats_from {l : List UInt8} {a n : Nat} {xs : List UInt8} (h : Eats (l.drop a) 0 xs n) (ha : a ≤ l.length) : Eats l a xs (a + n) := by
  obtain ⟨rest, h1, h2, h3⟩ := h
  rw [List.length_drop] at h3
  exact ⟨rest, by simpa using h1, by omega, by omega⟩
theorem rd_good {l : List UInt8} : ∀ {k a : Nat} {xs : List Thing}, rdThings l k = some (xs, a) → xs.length = k ∧ Eats l 0 (xs.flatMap thingShow) a ∧ ∀ x ∈ xs, thingOk x = true
  | 0, a, xs, h => by
    cases h
    exact ⟨rfl, Eats.nil (Nat.zero_le _), by simp⟩
  | k + 1, a, xs, h => by
    rw [rdThings] at h
    obtain ⟨⟨ys, b⟩, h1, h2⟩ := Option.bind_eq_some_iff.1 h
    obtain ⟨⟨o, n⟩, h3, h4⟩ := Option.map_eq_some_iff.1 h2
    dsimp only at h3 h4
    cases h4
    obtain ⟨i1, i2, i3⟩ := rd_good h1
    obtain ⟨b1, b2⟩ := readThing_begins h3
    refine ⟨by rw [List.length_append, i1]; rfl, ?_, ?_⟩
    · rw [List.flatMap_append]
      have := i2.trans (eats_from b2 i2.le.1)
      simpa using this
    · intro x hx
      rcases List.mem_append.1 hx with hx | hx
      · exact i3 x hx
      · simp at hx; subst hx; exact b1
theorem rd_le {l : List UInt8} {k a : Nat} {xs : List Thing} (h : rdThings l k = some (xs, a)) : a ≤ l.length := (rd_good h).2.1.le.1
theorem rd_pos {l : List UInt8} {k a : Nat} {xs : List Thing} (h : rdThings l (k + 1) = some (xs, a)) : 0 < a := by
  rw [rdThings] at h
  obtain ⟨⟨ys, b⟩, h1, h2⟩ := Option.bind_eq_some_iff.1 h
  obtain ⟨⟨o, n⟩, h3, h4⟩ := Option.map_eq_some_iff.1 h2
  dsimp only at h3 h4
  cases h4
  have := readThing_pos h3
  omega
theorem shows_same {xs : List Thing} (h : ∀ x ∈ xs, thingOk x = true) : xs.flatMap showThing = xs.flatMap thingShow := by
  induction xs with
  | nil => rfl
  | cons x xs ih =>
    rw [List.flatMap_cons, List.flatMap_cons, ih (fun y hy => h y (by simp [hy]))]
    congr 1
    unfold showThing
    rw [if_pos (h x (by simp))]
theorem arena_read {l : List UInt8} {a : Nat} {xs : List Thing} (h : rdThings l 10 = some (xs, a)) : showArena xs = l ↔ (a = l.length ∧ arenaOk xs = true) := by
  obtain ⟨h1, h2, h3⟩ := rd_good h
  have hp := rd_pos h
  have hd := h2.drop
  obtain ⟨hle, ha⟩ := h2.le
  rw [List.drop_zero] at hd
  unfold showArena
  cases hok : arenaOk xs
  · rw [if_neg (by decide)]
    constructor
    · intro e
      rw [← e] at hle
      simp at hle
      omega
    · intro e
      exact absurd e.2 (by decide)
  · rw [if_pos rfl, shows_same h3]
    constructor
    · intro e
      refine ⟨?_, rfl⟩
      have := congrArg List.length e
      omega
    · rintro ⟨e, _⟩
      conv => rhs; rw [hd]
      rw [e, List.drop_length, List.append_nil]
theorem readArena_at {l : List UInt8} {a : Nat} {xs : List Thing} (h : rdThings l 10 = some (xs, a)) : readArena l = if (decide (a = l.length) && arenaOk xs) = true then some xs else none := by
  unfold readArena
  rw [h]
  rfl
theorem readArena_no {l : List UInt8} (h : rdThings l 10 = none) : readArena l = none := by
  unfold readArena
  rw [h]
  rfl
theorem readArena_yes {l : List UInt8} {a : Nat} {xs : List Thing} (h : rdThings l 10 = some (xs, a)) (h1 : a = l.length) (h2 : arenaOk xs = true) : readArena l = some xs := by
  rw [readArena_at h, h2, decide_eq_true h1]; rfl
theorem readArena_bad {l : List UInt8} {a : Nat} {xs : List Thing} (h : rdThings l 10 = some (xs, a)) (h1 : a ≠ l.length ∨ arenaOk xs = false) : readArena l = none := by
  rw [readArena_at h]
  rcases h1 with h1 | h1 <;> simp [h1]
theorem arenaRes_ok (l : List UInt8) : ∀ x ∈ arenaRes l, thingOk x = true := by
  unfold arenaRes
  cases h : rdThings l 10 with
  | none => rw [readArena_no h]; simp
  | some p =>
    obtain ⟨xs, a⟩ := p
    rw [readArena_at h]
    split
    · exact (rd_good h).2.2
    · simp
theorem arenaRes_len (l : List UInt8) : (arenaRes l).length ≤ 10 := by
  unfold arenaRes
  cases h : rdThings l 10 with
  | none => rw [readArena_no h]; simp
  | some p =>
    obtain ⟨xs, a⟩ := p
    rw [readArena_at h]
    split
    · have := (rd_good h).1
      simp; omega
    · simp
theorem good_short {xs : List Thing} (h : ∀ x ∈ xs, thingOk x = true) : Short 1048576 xs := fun x hx => by
  have g := thing_good (h x hx)
  have h1 := g.links
  have h2 := g.data
  have h3 := g.queue
  have h4 := g.wait
  exact ⟨⟨by omega, by omega, by omega⟩, hideP (by unfold I64; omega)⟩
theorem good_marks {xs : List Thing} (h : ∀ x ∈ xs, thingOk x = true) (hl : xs.length ≤ 10) : qAt 1 xs xs.length ≤ 900000000000 := by
  have hs : ∀ (ys : List Thing), (∀ x ∈ ys, thingOk x = true) → (ys.map thingMarks).sum ≤ 24 * ys.length := by
    intro ys
    induction ys with
    | nil => simp
    | cons y ys ih =>
      intro hy
      have h1 := ih (fun z hz => hy z (by simp [hz]))
      have g := thing_good (hy y (by simp))
      have h2 := g.links
      have h3 := g.data
      have h4 := g.queue
      rw [List.map_cons, List.sum_cons, List.length_cons]
      unfold thingMarks at *
      omega
  have := hs xs h
  unfold qAt
  rw [List.take_length]
  omega
/-- What ReadArena hands back. -/
def ArenaRet (w : World) (l : List UInt8) (e : Ending) (w' : World) : Prop :=
  ∃ v rs, e = .returned (.tuple #[v, .bool (readArena l).isSome]) ∧ RowsOwn KThing w' w.heap.size v (arenaRes l).length (arenaRes l) rs [] ∧ Below w.heap.size w w'
theorem ArenaRet.no {w w' : World} {l : List UInt8} {v : Value} (h : readArena l = none) (ho : w'.ownsRow w.heap.size 34 13 v 0 []) (hb : Below w.heap.size w w') : ArenaRet w l (.returned (.tuple #[v, .bool false])) w' := by
  unfold ArenaRet arenaRes
  rw [h]
  exact ⟨v, [], rfl, RowsOwn.nil (K := KThing) (l := []) ho, hb⟩
theorem ArenaRet.yes {w w' : World} {l : List UInt8} {xs : List Thing} {v : Value} {rs : List (List Value)} (h : readArena l = some xs) (ho : RowsOwn KThing w' w.heap.size v xs.length xs rs []) (hb : Below w.heap.size w w') : ArenaRet w l (.returned (.tuple #[v, .bool true])) w' := by
  unfold ArenaRet arenaRes
  rw [h]
  exact ⟨v, rs, rfl, ho, hb⟩
/-- One more element is appended. -/
theorem RowsOwn.append {α : Type} {K : Kind α} {w w' : World} {base N : Nat} {v v' : Value} {l : List α} {rs : List (List Value)} {x : α} {vs : List Value} (h : RowsOwn K w base v l.length l rs []) (ho : K.own w base x vs)
    (hr : w'.ownsRow base K.T K.s v' (l.length + 1) (flatC K l rs ++ K.cells x vs)) (hg : w.grownBy w' v.ownBlock) {M : Nat} (hat : v'.ownBlock = v.ownBlock ∨ v'.ownBlock = some M) (hM : M = w.heap.size)
    (h1 : ∀ (i : Nat) (a : List Value), rs[i]? = some a → ∀ q, mineL a q → q < N) (h2 : ∀ q, mineL vs q → N ≤ q) (h3 : ∀ q, mineL vs q → v.ownBlock ≠ some q) : RowsOwn K w' base v' (l ++ [x]).length (l ++ [x]) (rs ++ [vs]) [] := by
  subst hM
  have hk : KeptP (fun q => v.ownBlock = some q) w w' := KeptP.of_grown hg
  refine ⟨?_, by rw [List.length_append, List.length_append, h.len]; rfl, ?_, h.rise.snoc h1 h2, ?_⟩
  · rw [flatC_snoc K h.len, List.append_nil, List.length_append]
    exact hr
  · intro k y us hy hu
    rcases snoc_get hu with ⟨hk1, hu⟩ | ⟨hk1, rfl⟩
    · rcases snoc_get hy with ⟨_, hy⟩ | ⟨hk2, _⟩
      · exact K.kept (h.el k y us hy hu) hk (fun q hq e => h.off q e k us hu hq)
      · rw [h.len] at hk1; omega
    · rcases snoc_get hy with ⟨hk2, _⟩ | ⟨_, rfl⟩
      · rw [h.len] at hk1; omega
      · exact K.kept ho hk (fun q hq e => h3 q hq e)
  · intro q hq k us hu hm
    rcases hat with e | e
    · rw [e] at hq
      rcases snoc_get hu with ⟨_, hu⟩ | ⟨_, rfl⟩
      · exact h.off q hq k us hu hm
      · exact h3 q hm hq
    · rw [e] at hq
      cases hq
      rcases snoc_get hu with ⟨_, hu⟩ | ⟨_, rfl⟩
      · obtain ⟨y, _, hy⟩ := h.back hu
        exact absurd (K.lt hy _ hm).2 (Nat.lt_irrefl _)
      · exact absurd (K.lt ho _ hm).2 (Nat.lt_irrefl _)

end Go.Proofs.Ytabbncoihmhocaa

namespace Go.Proofs.Ytabbncoihmhocaa
open Go.RowKit

theorem seq_empty : seqGo [] 25 = none := seqGo_none (seqGo_stop (l := []) (k := 0) (a := 0) (ns := []) rfl rfl) (show 1 ≤ 25 by decide)
theorem readTree_empty : readTree [] = none := by
  unfold readTree
  rw [seq_empty]
  rfl
theorem nat_of_flag (b : Bool) : decide ((flagI b).toNat = 1) = b := by cases b <;> rfl
theorem res_back {x : Res} {ns : List Nat} {i : Nat} (hp : -1 ≤ x.par) (hb : amtOk x.bal = true) (h0 : ns.getD (5 * i) 0 = (flagI x.live).toNat) (h1 : ns.getD (5 * i + 1) 0 = (x.par + 1).toNat) (h2 : ns.getD (5 * i + 2) 0 = x.bal.p.toNat) (h3 : ns.getD (5 * i + 3) 0 = x.bal.r.toNat) (h4 : ns.getD (5 * i + 4) 0 = x.bal.c.toNat) : resOf ns i = x := by
  obtain ⟨b1, b2, b3⟩ := amtOk_iff.1 hb
  unfold resOf
  rw [h0, h1, h2, h3, h4, nat_of_flag, show ((x.par + 1).toNat : Int) - 1 = x.par by omega, show (x.bal.p.toNat : Int) = x.bal.p by omega, show (x.bal.r.toNat : Int) = x.bal.r by omega, show (x.bal.c.toNat : Int) = x.bal.c by omega]
theorem tree_build {t : List Res} (h : treeOk t = true) : buildTree (treeNats t) 5 = t := by
  have hl := (tree_parts h).1
  have hp : ∀ (k : Nat) (x : Res), t[k]? = some x → -1 ≤ x.par ∧ amtOk x.bal = true := fun k x hx => ⟨(live_par h hx).1, ((tree_places h).2 k x hx).1⟩
  match t, hl, hp with
  | [a, b, c, d, e], _, hp =>
    obtain ⟨a1, a2⟩ := hp 0 a rfl
    obtain ⟨b1, b2⟩ := hp 1 b rfl
    obtain ⟨c1, c2⟩ := hp 2 c rfl
    obtain ⟨d1, d2⟩ := hp 3 d rfl
    obtain ⟨e1, e2⟩ := hp 4 e rfl
    show [resOf _ 0, resOf _ 1, resOf _ 2, resOf _ 3, resOf _ 4] = _
    rw [res_back a1 a2 rfl rfl rfl rfl rfl, res_back b1 b2 rfl rfl rfl rfl rfl, res_back c1 c2 rfl rfl rfl rfl rfl, res_back d1 d2 rfl rfl rfl rfl rfl, res_back e1 e2 rfl rfl rfl rfl rfl]
theorem tree_back {t : List Res} (h : treeOk t = true) : readTree (showTree t) = some t := by
  obtain ⟨e1, e2, e3⟩ := treeShow_nats h
  have hs : showTree t = treeShow t := by unfold showTree; rw [if_pos h]
  have hseq := seqGo_show (showTree t) (treeNats t) [] [] (by rw [hs, e1]; simp) e2
  rw [e3] at hseq
  unfold readTree
  rw [hseq]
  show (if showTree (buildTree (treeNats t) 5) = showTree t then some (buildTree (treeNats t) 5) else none) = some t
  rw [tree_build h, if_pos rfl]
theorem tree_void {t : List Res} (h : treeOk t = false) : showTree t = [] := by unfold showTree; rw [if_neg (by rw [h]; decide)]
theorem tree_reads {l : List UInt8} {t : List Res} (h : readTree l = some t) : showTree t = l := by
  unfold readTree at h
  obtain ⟨q, _, h2⟩ := Option.bind_eq_some_iff.1 h
  split at h2
  · rename_i e
    cases h2
    exact e
  · cases h2
theorem tree_len {l : List UInt8} {t : List Res} (h : readTree l = some t) : t.length = 5 := by
  unfold readTree at h
  obtain ⟨q, _, h2⟩ := Option.bind_eq_some_iff.1 h
  split at h2
  · cases h2
    exact buildTree_len _ _
  · cases h2
theorem thing_back {o : Thing} (h : thingOk o = true) (x : List UInt8) : readThing (showThing o ++ x) = some (o, (showThing o).length) := by
  have hs : showThing o = thingShow o := by unfold showThing; rw [if_pos h]
  rw [hs]
  exact readThing_of ⟨h, x, by simp, by simp, by simp⟩
theorem thing_void {o : Thing} (h : thingOk o = false) : showThing o = [] := by unfold showThing; rw [if_neg (by rw [h]; decide)]
theorem thing_some {o : Thing} (h : thingOk o = true) : showThing o ≠ [] := by
  intro e
  have h1 := thing_back h []
  have := readThing_pos h1
  rw [e] at this
  exact absurd this (by decide)
theorem thing_ok_of {l : List UInt8} {o : Thing} {k : Nat} (h : readThing l = some (o, k)) : thingOk o = true := (readThing_begins h).1
theorem readThing_empty : readThing [] = none := by
  cases h : readThing [] with
  | none => rfl
  | some p =>
    obtain ⟨o, k⟩ := p
    have h1 := readThing_pos h
    have h2 := (readThing_begins h).2.le.1
    simp at h2
    omega
theorem readArena_empty : readArena [] = none := readArena_no (rd_none (rd_stop (l := []) (k := 0) (a := 0) (xs := []) rfl readThing_empty) (show 1 ≤ 10 by decide))
theorem arena_void {l : List Thing} (h : arenaOk l = false) : showArena l = [] := by unfold showArena; rw [if_neg (by rw [h]; decide)]
theorem things_back {l : List Thing} (h : ∀ x ∈ l, thingOk x = true) : ∀ k, k ≤ l.length → rdThings (l.flatMap showThing) k = some (l.take k, ((l.take k).flatMap showThing).length)
  | 0, _ => rfl
  | k + 1, hk => by
    have ih := things_back h k (by omega)
    obtain ⟨x, hx⟩ := some_at (l := l) (k := k) (by omega)
    have hd : (l.flatMap showThing).drop ((l.take k).flatMap showThing).length = showThing x ++ (l.drop (k + 1)).flatMap showThing := by
      conv => lhs; rw [← List.take_append_drop k l, List.flatMap_append]
      rw [show ((l.take k ++ l.drop k).take k) = l.take k by rw [List.take_append_drop], List.drop_left, drop_cons hx, List.flatMap_cons]
    have hr : readThing ((l.flatMap showThing).drop ((l.take k).flatMap showThing).length) = some (x, (showThing x).length) := by
      rw [hd]
      exact thing_back (h x (List.mem_of_getElem? hx)) _
    rw [rd_step ih hr, take_snoc hx, List.flatMap_append, List.length_append]
    simp
theorem arena_back {l : List Thing} (h : arenaOk l = true) : readArena (showArena l) = some l := by
  have hs : showArena l = l.flatMap showThing := by unfold showArena; rw [if_pos h]
  have hl := arena_ten h
  have hr := things_back (l := l) (fun x hx => by obtain ⟨k, hk⟩ := List.mem_iff_getElem?.1 hx; exact arena_thing h hk) 10 (by omega)
  rw [List.take_of_length_le (by omega)] at hr
  rw [hs]
  exact readArena_yes hr rfl h
theorem arena_reads {l : List UInt8} {xs : List Thing} (h : readArena l = some xs) : showArena xs = l := by
  have h0 := h
  unfold readArena at h
  obtain ⟨⟨ys, a⟩, hq, h2⟩ := Option.bind_eq_some_iff.1 h
  split at h2
  · rename_i hc
    cases h2
    rw [Bool.and_eq_true, decide_eq_true_eq] at hc
    exact (arena_read hq).2 hc
  · cases h2

end Go.Proofs.Ytabbncoihmhocaa

namespace Go.Proofs.Ytabbncoihmhocaa
open Go.RowKit


set_option maxRecDepth 100000 in
set_option maxHeartbeats 4000000 in
theorem sameTree_same (a a' : Option Addr) (n cap cap' : Nat) (t : List Res) (hn : n = t.length) (hl : n ≤ 1048576) (w : World) (h : Rd w a (t.flatMap Res.enc)) (h' : Rd w a' (t.flatMap Res.enc)) :
    Calls Try.prog 9 #[.slice a n cap, .slice a' n cap'] w fun e w' => e = .returned (.bool true) ∧ Below w.heap.size w w' := by
  have Hn := Lib.hid hn
  have HR := hideP h
  have HR' := hideP h'
  clear hn h h'
  go_enter Try.func9, Try.ntmps9
  go_wp2
  go_loopg [5] (n + 1) (fun gk iv wr => ∃ (k : Nat), n < gk + k ∧ k ≤ n ∧ iv = .int .i64 (k : Int) ∧ Hid (Below w.heap.size w wr))
  case atStart => exact ⟨0, by omega, by omega, rfl, hideP (Below.refl _ _)⟩
  case round =>
    obtain ⟨k, hgk, hk, rfl, HB⟩ := hrel
    by_cases hlt : k < n
    · obtain ⟨x, hx⟩ := some_at (l := t) (k := k) (by have := Hn.out; omega)
      obtain ⟨b, o, rfl, hbw, g1, g2, g3, g4, g5⟩ := (HR.out.below HB.out).rowRes hx
      obtain ⟨b', o', rfl, hbw', j1, j2, j3, j4, j5⟩ := (HR'.out.below HB.out).rowRes hx
      have k0 : (0 : Int) ≤ (k : Int) := by omega
      have k1 : (k : Int) < (n : Int) := by omega
      clear hx
      go_wp2
      go_quiet (fail)
      go_wp2
      go_roundg (gk - 1)
      case measure => omega
      case rel => exact ⟨k + 1, by omega, by omega, by go_num, hideP (below_drewN HB.out _)⟩
    · have d1 : ¬ ((k : Int) < (n : Int)) := by omega
      go_wp2
      go_ret
      exact ⟨rfl, HB.out⟩

end Go.Proofs.Ytabbncoihmhocaa

namespace Go.Proofs.Ytabbncoihmhocaa
open Go.RowKit

set_option maxRecDepth 100000 in
set_option maxHeartbeats 4000000 in
theorem equalFunc_same (l : List Thing) (p p' : Option Addr) (c c' n : Nat) (hn : l.length = n) (hl : n ≤ 1048576) (hs : Short 1048576 l) (w : World) (h : ThingsRd w p l) (h' : ThingsRd w p' l) :
    Calls Try.prog 38 #[.slice p n c, .slice p' n c', .func (.func 39) #[] #[]] w fun e w' => e = .returned (.bool true) ∧ Below w.heap.size w w' := by
  have HN := Lib.hid hn
  have HR := hideP h
  have HR' := hideP h'
  have HS := hideP hs
  clear hn h h' hs
  go_enter Try.func38, Try.ntmps38
  go_wp2
  go_loopg [17] (n + 1) (fun gk iv wr => ∃ (k : Nat), n < gk + k ∧ k ≤ n ∧ iv = .int .i64 (k : Int) ∧ Hid (Below w.heap.size w wr))
  case atStart => exact ⟨0, by omega, by omega, rfl, hideP (Below.refl _ _)⟩
  case round =>
    obtain ⟨k, hgk, hk, rfl, HB⟩ := hrel
    by_cases hlt : k < n
    · obtain ⟨x, hx⟩ := some_at (l := l) (k := k) (by have := HN.out; omega)
      obtain ⟨b, o, vl, vd, vq, rfl, hbw, hi1, hc⟩ := (HR.out.below HB.out) k x hx
      obtain ⟨b', o', ul, ud, uq, rfl, hbw', hi2, hc'⟩ := (HR'.out.below HB.out) k x hx
      have HX := hideP (HS.out x (List.mem_of_getElem? hx))
      have HI1 := hideP hi1
      have HI2 := hideP hi2
      obtain ⟨⟨al, cl, rfl, _, _⟩, ⟨ad, cd, rfl, _, _⟩, ⟨aq, cq, rfl, _, _⟩⟩ := hi1
      obtain ⟨⟨el, fl, rfl, _, _⟩, ⟨ed, fd, rfl, _, _⟩, ⟨eq2, fq, rfl, _, _⟩⟩ := hi2
      have a0 := hc 0 _ rfl
      have b0 := hc' 0 _ rfl
      have a1 := hc 1 _ rfl
      have b1 := hc' 1 _ rfl
      have a2 := hc 2 _ rfl
      have b2 := hc' 2 _ rfl
      have a3 := hc 3 _ rfl
      have b3 := hc' 3 _ rfl
      have a4 := hc 4 _ rfl
      have b4 := hc' 4 _ rfl
      have a5 := hc 5 _ rfl
      have b5 := hc' 5 _ rfl
      have a6 := hc 6 _ rfl
      have b6 := hc' 6 _ rfl
      have a7 := hc 7 _ rfl
      have b7 := hc' 7 _ rfl
      have a8 := hc 8 _ rfl
      have b8 := hc' 8 _ rfl
      have a9 := hc 9 _ rfl
      have b9 := hc' 9 _ rfl
      have a10 := hc 10 _ rfl
      have b10 := hc' 10 _ rfl
      have a11 := hc 11 _ rfl
      have b11 := hc' 11 _ rfl
      have a12 := hc 12 _ rfl
      have b12 := hc' 12 _ rfl
      have d0 := cell_alloc_keepB b0 (.cells #[.int .i64 x.gen, .int .i64 x.kind, .int .i64 x.box, .int .i64 x.res, .int .i64 x.til, .int .i64 x.pages, .int .i64 x.wait, .int .i64 x.got, .int .i64 x.ran, .bool x.mark, .slice al x.links.length cl, .slice ad x.data.length cd, .slice aq x.queue.length cq] 34)
      have d1 := cell_alloc_keepB b1 (.cells #[.int .i64 x.gen, .int .i64 x.kind, .int .i64 x.box, .int .i64 x.res, .int .i64 x.til, .int .i64 x.pages, .int .i64 x.wait, .int .i64 x.got, .int .i64 x.ran, .bool x.mark, .slice al x.links.length cl, .slice ad x.data.length cd, .slice aq x.queue.length cq] 34)
      have d2 := cell_alloc_keepB b2 (.cells #[.int .i64 x.gen, .int .i64 x.kind, .int .i64 x.box, .int .i64 x.res, .int .i64 x.til, .int .i64 x.pages, .int .i64 x.wait, .int .i64 x.got, .int .i64 x.ran, .bool x.mark, .slice al x.links.length cl, .slice ad x.data.length cd, .slice aq x.queue.length cq] 34)
      have d3 := cell_alloc_keepB b3 (.cells #[.int .i64 x.gen, .int .i64 x.kind, .int .i64 x.box, .int .i64 x.res, .int .i64 x.til, .int .i64 x.pages, .int .i64 x.wait, .int .i64 x.got, .int .i64 x.ran, .bool x.mark, .slice al x.links.length cl, .slice ad x.data.length cd, .slice aq x.queue.length cq] 34)
      have d4 := cell_alloc_keepB b4 (.cells #[.int .i64 x.gen, .int .i64 x.kind, .int .i64 x.box, .int .i64 x.res, .int .i64 x.til, .int .i64 x.pages, .int .i64 x.wait, .int .i64 x.got, .int .i64 x.ran, .bool x.mark, .slice al x.links.length cl, .slice ad x.data.length cd, .slice aq x.queue.length cq] 34)
      have d5 := cell_alloc_keepB b5 (.cells #[.int .i64 x.gen, .int .i64 x.kind, .int .i64 x.box, .int .i64 x.res, .int .i64 x.til, .int .i64 x.pages, .int .i64 x.wait, .int .i64 x.got, .int .i64 x.ran, .bool x.mark, .slice al x.links.length cl, .slice ad x.data.length cd, .slice aq x.queue.length cq] 34)
      have d6 := cell_alloc_keepB b6 (.cells #[.int .i64 x.gen, .int .i64 x.kind, .int .i64 x.box, .int .i64 x.res, .int .i64 x.til, .int .i64 x.pages, .int .i64 x.wait, .int .i64 x.got, .int .i64 x.ran, .bool x.mark, .slice al x.links.length cl, .slice ad x.data.length cd, .slice aq x.queue.length cq] 34)
      have d7 := cell_alloc_keepB b7 (.cells #[.int .i64 x.gen, .int .i64 x.kind, .int .i64 x.box, .int .i64 x.res, .int .i64 x.til, .int .i64 x.pages, .int .i64 x.wait, .int .i64 x.got, .int .i64 x.ran, .bool x.mark, .slice al x.links.length cl, .slice ad x.data.length cd, .slice aq x.queue.length cq] 34)
      have d8 := cell_alloc_keepB b8 (.cells #[.int .i64 x.gen, .int .i64 x.kind, .int .i64 x.box, .int .i64 x.res, .int .i64 x.til, .int .i64 x.pages, .int .i64 x.wait, .int .i64 x.got, .int .i64 x.ran, .bool x.mark, .slice al x.links.length cl, .slice ad x.data.length cd, .slice aq x.queue.length cq] 34)
      have d9 := cell_alloc_keepB b9 (.cells #[.int .i64 x.gen, .int .i64 x.kind, .int .i64 x.box, .int .i64 x.res, .int .i64 x.til, .int .i64 x.pages, .int .i64 x.wait, .int .i64 x.got, .int .i64 x.ran, .bool x.mark, .slice al x.links.length cl, .slice ad x.data.length cd, .slice aq x.queue.length cq] 34)
      have d10 := cell_alloc_keepB b10 (.cells #[.int .i64 x.gen, .int .i64 x.kind, .int .i64 x.box, .int .i64 x.res, .int .i64 x.til, .int .i64 x.pages, .int .i64 x.wait, .int .i64 x.got, .int .i64 x.ran, .bool x.mark, .slice al x.links.length cl, .slice ad x.data.length cd, .slice aq x.queue.length cq] 34)
      have d11 := cell_alloc_keepB b11 (.cells #[.int .i64 x.gen, .int .i64 x.kind, .int .i64 x.box, .int .i64 x.res, .int .i64 x.til, .int .i64 x.pages, .int .i64 x.wait, .int .i64 x.got, .int .i64 x.ran, .bool x.mark, .slice al x.links.length cl, .slice ad x.data.length cd, .slice aq x.queue.length cq] 34)
      have d12 := cell_alloc_keepB b12 (.cells #[.int .i64 x.gen, .int .i64 x.kind, .int .i64 x.box, .int .i64 x.res, .int .i64 x.til, .int .i64 x.pages, .int .i64 x.wait, .int .i64 x.got, .int .i64 x.ran, .bool x.mark, .slice al x.links.length cl, .slice ad x.data.length cd, .slice aq x.queue.length cq] 34)
      simp only [Nat.add_zero] at a0 b0 d0
      have k0 : (0 : Int) ≤ (k : Int) := by omega
      have k1 : (k : Int) < (n : Int) := by omega
      clear hc hc' hx
      go_wp2_with fail
      have hba := below_a2 wr (.cells #[.int .i64 x.gen, .int .i64 x.kind, .int .i64 x.box, .int .i64 x.res, .int .i64 x.til, .int .i64 x.pages, .int .i64 x.wait, .int .i64 x.got, .int .i64 x.ran, .bool x.mark, .slice al x.links.length cl, .slice ad x.data.length cd, .slice aq x.queue.length cq] 34) (.cells #[.int .i64 x.gen, .int .i64 x.kind, .int .i64 x.box, .int .i64 x.res, .int .i64 x.til, .int .i64 x.pages, .int .i64 x.wait, .int .i64 x.got, .int .i64 x.ran, .bool x.mark, .slice el x.links.length fl, .slice ed x.data.length fd, .slice eq2 x.queue.length fq] 34)
      have hx1 := HX.out.1
      obtain ⟨hx1, hx2, hx3⟩ := hx1
      refine (sameObj_any x x.gen x.kind x.box x.res x.til x.pages x.wait x.got x.ran x.mark x.links x.data x.queue _ _ _ _ _ _ hx1 hx2 hx3 hx1 hx2 hx3 _ (HI1.out.below hba) (show ThIs _ ⟨x.gen, x.kind, x.box, x.res, x.til, x.pages, x.wait, x.got, x.ran, x.mark, x.links, x.data, x.queue⟩ _ _ _ from HI2.out.below hba)).mono ?_
      rintro e w2 ⟨he, hb⟩
      rw [decide_eq_true (show x = ⟨x.gen, x.kind, x.box, x.res, x.til, x.pages, x.wait, x.got, x.ran, x.mark, x.links, x.data, x.queue⟩ from rfl)] at he
      subst he
      have HB := hideP (HB.out.trans ((hba.trans (hb.mono hba.size)).mono HB.out.size))
      clear hba hb hx1 hx2 hx3 HX HI1 HI2
      go_wp2
      go_roundg (gk - 1)
      case measure => omega
      case rel => exact ⟨k + 1, by omega, by omega, by go_num, HB⟩
    · have hkn : ¬ ((k : Int) < (n : Int)) := by omega
      go_wp2
      go_ret
      exact ⟨rfl, HB.out⟩

set_option maxRecDepth 100000 in
set_option maxHeartbeats 4000000 in
theorem sameArena_same (l : List Thing) (p p' : Option Addr) (c c' n : Nat) (hn : l.length = n) (hl : n ≤ 1048576) (hs : Short 1048576 l) (w : World) (h : ThingsRd w p l) (h' : ThingsRd w p' l) :
    Calls Try.prog 18 #[.slice p n c, .slice p' n c'] w fun e w' => e = .returned (.bool true) ∧ Below w.heap.size w w' := by
  have HN := Lib.hid hn
  have HR := hideP h
  have HR' := hideP h'
  have HS := hideP hs
  clear hn h h' hs
  go_enter Try.func18, Try.ntmps18
  go_wp2_with fail
  refine (equalFunc_same l p p' c c' n HN.out hl HS.out w HR.out HR'.out).mono ?_
  rintro e w2 ⟨rfl, hb⟩
  have HB := hideP hb
  clear hb
  go_wp2
  go_ret
  exact ⟨rfl, HB.out⟩

end Go.Proofs.Ytabbncoihmhocaa

namespace Go.Proofs.Ytabbncoihmhocaa
open Go.RowKit

set_option maxRecDepth 100000 in
set_option maxHeartbeats 4000000 in
theorem implShowTree_any (ad : Option Addr) (n cap : Nat) (t : List Res) (hn : n = t.length) (hl : n ≤ 1048576) (w : World) (h : Rd w ad (t.flatMap Res.enc)) :
    Calls Try.prog 7 #[.slice ad n cap] w fun e w' => e = .returned (.string ⟨(showTree t).toArray⟩) ∧ Below w.heap.size w w' := by
  have Hn := Lib.hid hn
  clear hn
  go_enter Try.func7, Try.ntmps7
  go_wp2_with fail
  refine (implTreeOk_any _ _ _ t Hn.out hl _ h).mono ?_
  rintro e w1 ⟨rfl, hb1⟩
  cases hok : treeOk t
  · have HS : Hid (showTree t = []) := hideP (by unfold showTree; rw [hok]; rfl)
    go_wp2
    go_ret
    exact ⟨by rw [HS.out]; rfl, hb1⟩
  have HS : Hid (showTree t = treeShow t) := hideP (by unfold showTree; rw [hok]; rfl)
  have Hok := Lib.hid hok
  have hn5 : n = 5 := by have := Hn.out; have := (tree_parts hok).1; omega
  subst hn5
  clear hok
  go_wp2
  go_loopg [3, 12] 6 (fun gk s i wr => ∃ (k : Nat) (acc : List UInt8), 5 < gk + k ∧ k ≤ 5 ∧ i = .int .i64 (k : Int) ∧ s = .string ⟨acc.toArray⟩ ∧ acc.length ≤ 200 ∧ Hid (treeShow (t.take k) = acc) ∧ Below w.heap.size w wr)
  case atStart => exact ⟨0, [], by omega, by omega, rfl, rfl, by simp, hideP rfl, hb1⟩
  case round =>
    obtain ⟨k, acc, hgk, hk, rfl, rfl, hal, hv, hb⟩ := hrel
    by_cases hlt : k < 5
    · obtain ⟨x, hx⟩ := some_at (l := t) (k := k) (by have := Hn.out; omega)
      obtain ⟨b, o, rfl, hbw, g1, g2, g3, g4, g5⟩ := (h.below hb).rowRes hx
      have HV : Hid (treeShow (t.take (k + 1)) = acc ++ resShow x) := hideP (by rw [treeShow_next hx, hv.out])
      have hal2 : (acc ++ resShow x).length ≤ 200 := by rw [← HV.out]; exact treeShow_take t _ Hn.out.symm
      have HAL := Lib.hid hal2
      have hpp := live_par Hok.out hx
      have k0 : (0 : Int) ≤ (k : Int) := by omega
      have k5 : (k : Int) < 5 := by omega
      obtain ⟨xl, xp, ⟨y1, y2, y3⟩⟩ := x
      dsimp only at g1 g2 g3 g4 g5 hpp
      obtain ⟨hpp0, hpp1⟩ := hpp
      have hrl : (varsL (resNums ⟨xl, xp, ⟨y1, y2, y3⟩⟩)).length ≤ 40 := varsL_len _
      skip
      have pz : wr.heap.size < (wr.alloc (.cells #[.bool xl, .int .i64 xp, .int .i64 y1, .int .i64 y2, .int .i64 y3] 57)).heap.size := by simp
      have zw : IntKind.i64.wrap (xp + 1) = xp + 1 := IntWalk.i64_in _ (by omega)
      clear hx hal2
      go_wp2
      refine wp_region_held_drew (S := fun w' => w'.cell? ⟨wr.heap.size, 0, none⟩ = some (.bool xl) ∧ w'.cell? ⟨wr.heap.size, 1, none⟩ = some (.int .i64 xp) ∧ w'.cell? ⟨wr.heap.size, 2, none⟩ = some (.int .i64 y1) ∧ w'.cell? ⟨wr.heap.size, 3, none⟩ = some (.int .i64 y2) ∧ w'.cell? ⟨wr.heap.size, 4, none⟩ = some (.int .i64 y3) ∧ Below (wr.alloc (.cells #[.bool xl, .int .i64 xp, .int .i64 y1, .int .i64 y2, .int .i64 y3] 57)).heap.size (wr.alloc (.cells #[.bool xl, .int .i64 xp, .int .i64 y1, .int .i64 y2, .int .i64 y3] 57)) w') (by kernel_rfl) (held05 (by simp) (by simp) (by simp) (by simp) (by simp)) (fun hHeld => ?_)
      refine takeD (i := 0) (oi := _) (v := ?_) (some 16) rfl rfl (by kernel_rfl) (by kernel_rfl) (by kernel_rfl) (fun _ _ _ h => h) (Or.inl ⟨by rfl, ?_⟩) (by assumption) ?_
      rotate_left
      · intro w hSw; (try dsimp only at hSw); go_simp; (try rw [if_neg (by omega)]); try with_reducible rfl
      try simp only [Act.put, List.setIfInBounds_toArray, List.set_cons_zero, List.set_cons_succ]
      refine takeD (i := 1) (oi := _) (v := ?_) (some 17) rfl rfl (by kernel_rfl) (by kernel_rfl) (by kernel_rfl) (fun _ _ _ h => h) (Or.inl ⟨by rfl, ?_⟩) (by assumption) ?_
      rotate_left
      · intro w hSw; (try dsimp only at hSw); go_simp; (try rw [if_neg (by omega)]); try with_reducible rfl
      try simp only [Act.put, List.setIfInBounds_toArray, List.set_cons_zero, List.set_cons_succ]
      refine takeD (i := 2) (oi := _) (v := ?_) (some 18) rfl rfl (by kernel_rfl) (by kernel_rfl) (by kernel_rfl) (fun _ _ _ h => h) (Or.inl ⟨by rfl, ?_⟩) (by assumption) ?_
      rotate_left
      · intro w hSw; (try dsimp only at hSw); go_simp; (try rw [if_neg (by omega)]); try with_reducible rfl
      try simp only [Act.put, List.setIfInBounds_toArray, List.set_cons_zero, List.set_cons_succ]
      refine takeD (i := 4) (oi := _) (v := ?_) (some 20) rfl rfl (by kernel_rfl) (by kernel_rfl) (by kernel_rfl) (fun _ _ _ h => h) (Or.inl ⟨by rfl, ?_⟩) (by assumption) ?_
      rotate_left
      · intro w hSw; (try dsimp only at hSw); go_simp; (try rw [if_neg (by omega)]); try with_reducible rfl
      try simp only [Act.put, List.setIfInBounds_toArray, List.set_cons_zero, List.set_cons_succ]
      refine takeD (i := 5) (oi := _) (v := ?_) (some 21) rfl rfl (by kernel_rfl) (by kernel_rfl) (by kernel_rfl) (fun _ _ _ h => h) (Or.inl ⟨by rfl, ?_⟩) (by assumption) ?_
      rotate_left
      · intro w hSw; (try dsimp only at hSw); go_simp; (try rw [if_neg (by omega)]); try with_reducible rfl
      try simp only [Act.put, List.setIfInBounds_toArray, List.set_cons_zero, List.set_cons_succ]
      refine takeD (i := 6) (oi := _) (v := ?_) (some 22) rfl rfl (by kernel_rfl) (by kernel_rfl) (by kernel_rfl) (fun _ _ _ h => h) (Or.inl ⟨by rfl, ?_⟩) (by assumption) ?_
      rotate_left
      · intro w hSw; (try dsimp only at hSw); go_simp; (try rw [if_neg (by omega)]); try with_reducible rfl
      try simp only [Act.put, List.setIfInBounds_toArray, List.set_cons_zero, List.set_cons_succ]
      refine takeD (i := 7) (oi := _) (v := ?_) (some 23) rfl rfl (by kernel_rfl) (by kernel_rfl) (by kernel_rfl) (fun _ _ _ h => h) (Or.inl ⟨by rfl, ?_⟩) (by assumption) ?_
      rotate_left
      · intro w hSw; (try dsimp only at hSw); go_simp; (try rw [if_neg (by omega)]); try with_reducible rfl
      try simp only [Act.put, List.setIfInBounds_toArray, List.set_cons_zero, List.set_cons_succ]
      refine takeD (i := 8) (oi := _) (v := ?_) (some 24) rfl rfl (by kernel_rfl) (by kernel_rfl) (by kernel_rfl) (fun _ _ _ h => h) (Or.inl ⟨by rfl, ?_⟩) (by assumption) ?_
      rotate_left
      · intro w hSw; (try dsimp only at hSw); go_simp; (try rw [if_neg (by omega)]); try with_reducible rfl
      try simp only [Act.put, List.setIfInBounds_toArray, List.set_cons_zero, List.set_cons_succ]
      refine takeD (i := 9) (oi := _) (v := ?_) (some 25) rfl rfl (by kernel_rfl) (by kernel_rfl) (by kernel_rfl) (fun _ _ _ h => h) (Or.inl ⟨by rfl, ?_⟩) (by assumption) ?_
      rotate_left
      · intro w hSw; (try dsimp only at hSw); go_simp; (try rw [if_neg (by omega)]); try with_reducible rfl
      try simp only [Act.put, List.setIfInBounds_toArray, List.set_cons_zero, List.set_cons_succ]
      refine takeD (i := 10) (oi := _) (v := ?_) (some 26) rfl rfl (by kernel_rfl) (by kernel_rfl) (by kernel_rfl) (fun _ _ _ h => h) (Or.inl ⟨by rfl, ?_⟩) (by assumption) ?_
      rotate_left
      · intro w hSw; (try dsimp only at hSw); go_simp; (try rw [if_neg (by omega)]); try with_reducible rfl
      try simp only [Act.put, List.setIfInBounds_toArray, List.set_cons_zero, List.set_cons_succ]
      refine takeD (i := 11) (oi := _) (v := ?_) (some 27) rfl rfl (by kernel_rfl) (by kernel_rfl) (by kernel_rfl) (fun _ _ _ h => h) (Or.inl ⟨by rfl, ?_⟩) (by assumption) ?_
      rotate_left
      · intro w hSw; (try dsimp only at hSw); go_simp; (try rw [if_neg (by omega)]); try with_reducible rfl
      try simp only [Act.put, List.setIfInBounds_toArray, List.set_cons_zero, List.set_cons_succ]
      refine takeD (i := 12) (oi := _) (v := ?_) (some 28) rfl rfl (by kernel_rfl) (by kernel_rfl) (by kernel_rfl) (fun _ _ _ h => h) (Or.inl ⟨by rfl, ?_⟩) (by assumption) ?_
      rotate_left
      · intro w hSw; (try dsimp only at hSw); go_simp; (try rw [if_neg (by omega)]); try with_reducible rfl
      try simp only [Act.put, List.setIfInBounds_toArray, List.set_cons_zero, List.set_cons_succ]
      refine takeD (i := 13) (oi := _) (v := ?_) (some 29) rfl rfl (by kernel_rfl) (by kernel_rfl) (by kernel_rfl) (fun _ _ _ h => h) (Or.inl ⟨by rfl, ?_⟩) (by assumption) ?_
      rotate_left
      · intro w hSw; (try dsimp only at hSw); go_simp; (try rw [if_neg (by omega)]); try with_reducible rfl
      try simp only [Act.put, List.setIfInBounds_toArray, List.set_cons_zero, List.set_cons_succ]
      refine takeD (i := 14) (oi := _) (v := ?_) (some 30) rfl rfl (by kernel_rfl) (by kernel_rfl) (by kernel_rfl) (fun _ _ _ h => h) (Or.inl ⟨by rfl, ?_⟩) (by assumption) ?_
      rotate_left
      · intro w hSw; (try dsimp only at hSw); go_simp; (try rw [if_neg (by omega)]); try with_reducible rfl
      try simp only [Act.put, List.setIfInBounds_toArray, List.set_cons_zero, List.set_cons_succ]
      refine takeD (i := 15) (oi := _) (v := ?_) (some 31) rfl rfl (by kernel_rfl) (by kernel_rfl) (by kernel_rfl) (fun _ _ _ h => h) (Or.inl ⟨by rfl, ?_⟩) (by assumption) ?_
      rotate_left
      · intro w hSw; (try dsimp only at hSw); go_simp; (try rw [if_neg (by omega)]); try with_reducible rfl
      try simp only [Act.put, List.setIfInBounds_toArray, List.set_cons_zero, List.set_cons_succ]
      refine wpAnyH_ready (rs := [3]) (by kernel_rfl) (by simp) ?_
      refine AllReadyH.cons (o := _) rfl (fun K hK => ?_) AllReadyH.nil
      go_simp
      refine (implFlag_any _ _).mono ?_
      rintro e w' ⟨rfl, rfl⟩
      go_wp2_with fail
      refine hK.out _ _ (hHeld) (fun hHeld => ?_)
      clear hK K
      try simp only [Act.put, List.setIfInBounds_toArray, List.set_cons_zero, List.set_cons_succ]
      refine wpAnyH_ready (rs := [16]) (by kernel_rfl) (by simp) ?_
      refine AllReadyH.cons (o := _) rfl (fun K hK => ?_) AllReadyH.nil
      go_simp
      refine hK.out _ _ (heldA5 hHeld (Nat.le_refl _) pz pz pz pz pz) (fun hHeld => ?_)
      clear hK K
      try simp only [Act.put, List.setIfInBounds_toArray, List.set_cons_zero, List.set_cons_succ]
      refine wpAnyH_ready (rs := [17]) (by kernel_rfl) (by simp) ?_
      refine AllReadyH.cons (o := _) rfl (fun K hK => ?_) AllReadyH.nil
      go_simp
      refine (vars_any _ _ _ (resNums ⟨xl, xp, ⟨y1, y2, y3⟩⟩) rfl (show 5 ≤ 1000000 by decide) _ (rd_litd (by rfl) (by simp))).mono ?_
      rintro e w2 ⟨rfl, hb2⟩
      go_wp2_with fail
      refine hK.out _ _ (heldC5 hHeld hb2 (Nat.le_refl _) pz pz pz pz pz) (fun hHeld => ?_)
      clear hK K
      try simp only [Act.put, List.setIfInBounds_toArray, List.set_cons_zero, List.set_cons_succ]
      refine takeD (i := 18) (oi := _) (v := ?_) (some 34) rfl rfl (by kernel_rfl) (by kernel_rfl) (by kernel_rfl) (fun _ _ _ h => h) (Or.inl ⟨by rfl, ?_⟩) (by assumption) ?_
      rotate_left
      · intro w hSw; (try dsimp only at hSw); go_simp; (try rw [if_neg (by omega)]); try with_reducible rfl
      try simp only [Act.put, List.setIfInBounds_toArray, List.set_cons_zero, List.set_cons_succ]
      refine takeD (i := 19) (oi := _) (v := ?_) (some 3) rfl rfl (by kernel_rfl) (by kernel_rfl) (by kernel_rfl) (fun _ _ _ h => h) (Or.inl ⟨by rfl, ?_⟩) (by assumption) ?_
      rotate_left
      · intro w hSw; (try dsimp only at hSw); go_simp; (try rw [if_neg (by omega)]); try with_reducible rfl
      try simp only [Act.put, List.setIfInBounds_toArray, List.set_cons_zero, List.set_cons_succ]
      refine wpAnyH_done (by kernel_rfl) ?_ _
      clear zw
      go_wp2
      go_roundg (gk - 1)
      case measure => omega
      case rel => exact ⟨k + 1, _, by omega, by omega, by go_num, by rw [ByteArray.mk_append_mk]; rfl, HAL.out, HV, (hb.alloc hb.size _).trans ((heldL5 hHeld).mono (by have := hb.size; simp; omega))⟩
    · have HV : Hid (treeShow t = acc) := hideP (by rw [← hv.out, List.take_of_length_le (by have := Hn.out; omega)])
      go_wp2
      go_ret
      exact ⟨by rw [HS.out, HV.out]; rfl, hb⟩


end Go.Proofs.Ytabbncoihmhocaa
