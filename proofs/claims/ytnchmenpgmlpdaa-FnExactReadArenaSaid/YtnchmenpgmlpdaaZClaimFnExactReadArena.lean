/- FnExactReadArena: for every text the program's ReadArena answers what the reference's answers, in memory of its own. No condition. -/
import Derived.Test.YtnchmenpgmlpdaaRows
import Derived.Test.YtnchmenpgmlpdaaBase
import Derived.ProofKit
import Derived.OpenShut
import Derived.Carry
import Derived.Deep.Slices
import Derived.Deep.Fields
import Derived.Test.YtnchmenpgmlpdaaArenaOkS
import Derived.Test.YtnchmenpgmlpdaaShowObjS
import Derived.Deep.DeepCutAuto
import Derived.Test.YtnchmenpgmlpdaaThingsMix
import Derived.Test.YtnchmenpgmlpdaaThingRet
import Derived.Maps.AppendAt
import Derived.Test.YtnchmenpgmlpdaaApp
import Derived.Test.YtnchmenpgmlpdaaReadObjI
import Derived.Test.YtnchmenpgmlpdaaArenaOkI
import Derived.Deep.LoopGhost
import Derived.Test.YtnchmenpgmlpdaaReadObjS
import Derived.Test.YtnchmenpgmlpdaaThingsSz
import Derived.Lib.QuietBelow
import Derived.Test.YtnchmenpgmlpdaaThingsMark
import Derived.ChangeMaps5
namespace Go.Proofs.Ytnchmenpgmlpdaa
open Go.ChangeShapes Go.WideShapes Go.ChangeAt Go.RowKit Go.Deep

theorem Try.own0 : ownKnob Try.prog.godebug = none := by kernel_rfl
theorem Try.progEq0 : Try.checked.prog = Try.prog := rfl
theorem Try.laidOut0 : laidOutB Try.prog = true := by kernel_rfl

section
variable {H : Type} {enc : TypeId × Value → H} {P : Program}

theorem trodAll_below (hl : laidOutB P = true) {W W' : World} (hb : Below W.heap.size W W') : ∀ {ts : List TypeId} {vs : List Value} {ds : List (DataW H)} {ps : List MemPlace},
    (∀ t ∈ ts, P.readableRec t = true ∧ t < P.types.size) → (∀ x ∈ ps, x.block < W.heap.size) → DataW.TrodAll enc P W 0 (fun _ => true) true ts vs ds ps →
    DataW.TrodAll enc P W' 0 (fun b => decide (b < W.heap.size)) true ts vs ds ps
  | [], [], [], _, _, _, h => h
  | t :: ts, v :: vs, d :: ds, ps, hr, hlt, h => by
    obtain ⟨p, q, h1, h2, rfl⟩ := h
    exact ⟨p, q, Below.trod hl (hr t (by simp)).1 (hr t (by simp)).2 h1 hb (fun x hx => hlt x (by simp [hx])),
      trodAll_below hl hb (fun t ht => hr t (by simp [ht])) (fun x hx => hlt x (by simp [hx])) h2, rfl⟩

/-- The post of a law: true, and the arguments as they were. -/
theorem law_post {f : Func} {s : ChangeSpec} {W W' : World} {args : Array Value} {ds gs : List (DataW H)} {before : List MemPlace} (hl : laidOutB P = true)
    (hr : ∀ t ∈ f.params.toList, P.readableRec t = true ∧ t < P.types.size) {bt : TypeId} (hres : f.resultTypes = #[bt]) (hbt : P.underlying bt = some .bool)
    (hvars : s.vars = []) (hW : DataW.Whole enc P f.params.toList s.vars false W args.toList ds gs before) (hspec : s.fn H (ds ++ []) = { results := [.lit (.bool true)], args := ds })
    (hb : Below W.heap.size W W') : s.post enc P f false true false false W args (.bool true) W' := by
  have hlt : ∀ x ∈ before, x.block < W.heap.size := fun x hx => by simpa using hW.lt x hx
  have hW' := hW
  obtain ⟨p, q, hA, hV, rfl, hfz, hnd⟩ := hW
  rw [hvars] at hV
  obtain ⟨rfl, rfl⟩ := trodVars_none hV
  refine ⟨ds, [], p ++ [], [], p ++ [], [], hW', ?_, ?_, ?_, hb.frame _, fun h => by cases h⟩
  · rw [hspec, hres]
    exact trodAll_mk1 (shut_bool hbt _)
  · rw [hspec]
    simpa using trodAll_below hl hb hr (fun x hx => hlt x (by simp [hx])) hA
  · rw [hspec, hvars]
    rfl

/-- A slice's argument opened row by row: `dec` reads one row. -/
theorem open_rows {α : Type} [Inhabited α] (cells : World → List Value → α → Prop) {W : World} {t e : TypeId} {v : Value} {d : DataW H} {p : List MemPlace} (s : Nat) (ht : P.underlying t = some (.slice e)) (hC : P.cellsOf e = s) (hs : 0 < s)
    (hdec : ∀ n cs y, DataW.trod enc P W 0 (fun _ => true) true n e cs = some y → ∃ x, cells W cs x) {r : Reach} {b0 : Nat}
    (hval : Value.okWide P W r b0 t v) (h : DataW.Trod enc P W 0 (fun _ => true) true t v d p) :
    ∃ (a : Option Addr) (n cap : Nat) (rows : List (List Value)) (l : List α), v = .slice a n cap ∧ n = l.length ∧ n ≤ maxLen ∧ Rd W a rows.flatten ∧ (∀ c ∈ rows, c.length = s) ∧ rows.length = n ∧ (∀ (i : Nat) (c : List Value) (x : α), rows[i]? = some c → l[i]? = some x → cells W c x) := by
  obtain ⟨a0, n0, cap0, rfl⟩ := okWide_slice ht hval
  obtain ⟨fuel, hf⟩ := h
  rcases open_slice ht hf with ⟨hcs, _⟩ | ⟨a, len, cap, m, n, D, Pl, hcs, _, hlc, hcm, hm, _, hi⟩
  · simp [Value.cells] at hcs
    obtain ⟨rfl, rfl, rfl⟩ := hcs
    exact ⟨none, 0, 0, [], [], rfl, rfl, Nat.zero_le _, .inl rfl, by simp, rfl, by simp⟩
  · simp [Value.cells] at hcs
    obtain ⟨rfl, rfl, rfl⟩ := hcs
    simp only [if_true] at hm
    subst hm
    have hg : ∀ i, i < n0 → ∃ cs : List Value, cs.length = s ∧ (∀ j, j < s → W.cell? ((a.add (i * s)).add j) = cs[j]?) ∧ ∃ x, cells W cs x := by
      intro i hi'
      obtain ⟨cs, h1, h2⟩ := hi i (by omega)
      rw [hC] at h1
      obtain ⟨_, h3, h4⟩ := World.cells?_some h1
      exact ⟨cs, h3, h4, hdec _ _ _ h2⟩
    obtain ⟨R, hR⟩ := choose_lt (α := List Value) (p := fun i cs => cs.length = s ∧ (∀ j, j < s → W.cell? ((a.add (i * s)).add j) = cs[j]?) ∧ ∃ x, cells W cs x) hg
    have hX : ∀ i, i < n0 → ∃ x, cells W (R i) x := fun i hi' => (hR i hi').2.2
    obtain ⟨X, hX⟩ := choose_lt (α := α) hX
    refine ⟨some a, n0, _, (List.range n0).map R, (List.range n0).map X, rfl, by simp, by omega, ?_, ?_, by simp, ?_⟩
    · by_cases h0 : n0 = 0
      · subst h0; exact .inl rfl
      · obtain ⟨l0, c0, _⟩ := hR 0 (by omega)
        have hc0 := c0 0 hs
        obtain ⟨b, o, spot⟩ := a
        have hget : (R 0)[0]? = some ((R 0)[0]'(by omega)) := List.getElem?_eq_getElem (by omega)
        rw [hget] at hc0
        have hsp : spot = none := by simpa [Addr.add] using World.cell?_spot hc0
        subst hsp
        have hbl : b < W.heap.size := by
          have := World.block_lt_of_cell? W _ hc0
          simpa [Addr.add] using this
        refine .inr ⟨b, o, rfl, hbl, fun i u hu => ?_⟩
        have hlen : ∀ (k : Nat), k ≤ n0 → (((List.range k).map R).flatten).length = k * s := by
          intro k hk
          induction k with
          | zero => simp
          | succ k ih => rw [List.range_succ, List.map_append, List.flatten_append, List.length_append, ih (by omega)]; simp [(hR k (by omega)).1, Nat.add_mul]
        have hiu : i < n0 * s := by have := (List.getElem?_eq_some_iff.1 hu).1; rw [hlen n0 (Nat.le_refl _)] at this; exact this
        have hq : i / s < n0 := Nat.div_lt_of_lt_mul (by rw [Nat.mul_comm]; exact hiu)
        have hmod : i % s < s := Nat.mod_lt _ hs
        have hdm : i = i / s * s + i % s := by rw [Nat.mul_comm]; exact (Nat.div_add_mod i s).symm
        have hget2 := flat_get (α := Nat) (fun k => if k < n0 then R k else List.replicate s undef) s (fun k => by by_cases hk : k < n0 <;> simp [hk]; exact (hR k hk).1) (List.range n0) (i / s) (i / s) (by simp [hq]) (i % s) hmod
        have hfm : (List.range n0).flatMap (fun k => if k < n0 then R k else List.replicate s undef) = ((List.range n0).map R).flatten := by
          rw [List.flatMap_def]
          congr 1
          apply List.map_congr_left
          intro k hk
          simp at hk
          simp [hk]
        rw [hfm, ← hdm, if_pos hq, hu] at hget2
        have := (hR (i / s) hq).2.1 (i % s) hmod
        rw [← hget2] at this
        rw [← this]
        have e2 : o + i = o + i / s * s + i % s := by omega
        rw [e2]
        simp only [Addr.add]
        by_cases z1 : i / s * s = 0 <;> by_cases z2 : i % s = 0 <;> simp [z1, z2]
    · intro c hc
      simp at hc
      obtain ⟨k, hk, rfl⟩ := hc
      exact (hR k hk).1
    · intro i c x hc hx
      simp [List.getElem?_eq_some_iff] at hc hx
      obtain ⟨k1, ⟨hk1, rfl⟩, rfl⟩ := hc
      obtain ⟨k2, ⟨hk2, rfl⟩, rfl⟩ := hx
      exact hX _ hk1

/-- A field that is an int, a bool: its cell. -/
theorem fld_int {W : World} {n : Nat} {t : TypeId} {cs : List Value} {xs : List (DataW H × List MemPlace)} {j : Nat} {c : Value} (h : DataW.trod enc P W 0 (fun _ => true) true n t cs = xs[j]?) (hj : j < xs.length) (ht : P.underlying t = some (.int .i64)) (hc : cs = [c]) :
    ∃ v, c = .int .i64 v := by
  rw [List.getElem?_eq_getElem hj] at h
  obtain ⟨v, hv, _⟩ := DataW.trod_int ht h
  exact ⟨v, by rw [hc] at hv; simpa using hv⟩
theorem fld_bool {W : World} {n : Nat} {t : TypeId} {cs : List Value} {xs : List (DataW H × List MemPlace)} {j : Nat} {c : Value} (h : DataW.trod enc P W 0 (fun _ => true) true n t cs = xs[j]?) (hj : j < xs.length) (ht : P.underlying t = some .bool) (hc : cs = [c]) :
    ∃ v, c = .bool v := by
  rw [List.getElem?_eq_getElem hj] at h
  obtain ⟨v, hv, _⟩ := DataW.trod_bool ht h
  exact ⟨v, by rw [hc] at hv; simpa using hv⟩

/-- The same where a row's cells tell the element (`enc`). -/
theorem open_flat {α : Type} [Inhabited α] (cod : α → List Value) {W : World} {t e : TypeId} {v : Value} {d : DataW H} {p : List MemPlace} (s : Nat) (ht : P.underlying t = some (.slice e)) (hC : P.cellsOf e = s) (hs : 0 < s)
    (hdec : ∀ n cs y, DataW.trod enc P W 0 (fun _ => true) true n e cs = some y → ∃ x, cs = cod x) {r : Reach} {b0 : Nat}
    (hval : Value.okWide P W r b0 t v) (h : DataW.Trod enc P W 0 (fun _ => true) true t v d p) :
    ∃ (a : Option Addr) (n cap : Nat) (l : List α), v = .slice a n cap ∧ n = l.length ∧ n ≤ maxLen ∧ Rd W a (l.flatMap cod) := by
  obtain ⟨a, n, cap, rows, l, h1, h2, h3, h4, _, h6, h7⟩ := open_rows (fun _ cs x => cs = cod x) s ht hC hs hdec hval h
  refine ⟨a, n, cap, l, h1, h2, h3, ?_⟩
  have : rows = l.map cod := by
    apply List.ext_getElem?
    intro i
    by_cases hi : i < n
    · have e1 := List.getElem?_eq_getElem (l := rows) (i := i) (by omega)
      have e2 := List.getElem?_eq_getElem (l := l) (i := i) (by omega)
      rw [List.getElem?_map, e2, e1, h7 i _ _ e1 e2]
      rfl
    · rw [List.getElem?_eq_none (by omega), List.getElem?_eq_none (by simp; omega)]
  rw [this] at h4
  rw [List.flatMap_def]
  exact h4

end
end Go.Proofs.Ytnchmenpgmlpdaa

namespace Go.Proofs.Ytnchmenpgmlpdaa
open Go.RowKit

def showArena (l : List Thing) : List UInt8 := if arenaOk l = true then l.flatMap showThing else []
theorem arena_thing {l : List Thing} (h : arenaOk l = true) {k : Nat} {x : Thing} (hx : l[k]? = some x) : thingOk x = true := by
  unfold arenaOk at h
  rw [Bool.and_eq_true] at h
  have := idxAll_iff.1 h.2 k x hx
  rw [Nat.zero_add] at this
  unfold slotOk at this
  rw [Bool.and_eq_true] at this
  exact this.1
theorem arena_ten {l : List Thing} (h : arenaOk l = true) : l.length = 10 := by
  unfold arenaOk arenaHead at h
  simp only [Bool.and_eq_true, decide_eq_true_eq] at h
  exact h.1.1
theorem showThing_len (x : Thing) : (showThing x).length ≤ 216 := by
  unfold showThing
  split
  · next h =>
    have hg := thing_good h
    have h1 := thingShow_len x
    have h2 := hg.links
    have h3 := hg.data
    have h4 := hg.queue
    omega
  · simp
theorem shows_len : ∀ l : List Thing, (l.flatMap showThing).length ≤ 216 * l.length
  | [] => by simp
  | x :: l => by
    rw [List.flatMap_cons, List.length_append, List.length_cons]
    have := shows_len l
    have := showThing_len x
    omega
theorem shows_take (l : List Thing) (h : l.length = 10) (k : Nat) : ((l.take k).flatMap showThing).length ≤ 2160 := by
  have h1 := shows_len (l.take k)
  have h2 : (l.take k).length ≤ 10 := by rw [List.length_take]; omega
  omega
theorem shows_next {l : List Thing} {k : Nat} {x : Thing} (hx : l[k]? = some x) : (l.take (k + 1)).flatMap showThing = (l.take k).flatMap showThing ++ showThing x := by
  obtain ⟨hk, rfl⟩ := List.getElem?_eq_some_iff.1 hx
  rw [List.take_succ_eq_append_getElem hk, List.flatMap_append]
  simp
set_option maxRecDepth 100000 in
set_option maxHeartbeats 8000000 in
theorem specShowArena_any (l : List Thing) (p : Option Addr) (c : Nat) (hl : l.length ≤ 1048576) (hs : Short 1048576 l) (w : World) (h : ThingsRd w p l) :
    Calls Try.prog 49 #[.slice p l.length c] w fun e w' => e = .returned (.string ⟨(showArena l).toArray⟩) ∧ Below w.heap.size w w' := by
  have HR := hideP h
  have HS := hideP hs
  clear h hs
  go_enter Try.func49, Try.ntmps49
  go_wp2_with fail
  refine (specArenaOk_any l p c hl HS.out _ HR.out).mono ?_
  rintro e w1 ⟨rfl, hb1⟩
  have HB := hideP hb1
  clear hb1
  cases hok : arenaOk l
  · have HN : Hid (showArena l = []) := hideP (by unfold showArena; rw [hok]; rfl)
    go_wp2
    go_ret
    exact ⟨by rw [HN.out]; rfl, HB.out⟩
  have HN : Hid (showArena l = l.flatMap showThing) := hideP (by unfold showArena; rw [hok]; rfl)
  have HL := hideP (arena_ten hok)
  clear hok
  go_wp2
  go_loopg [3, 4] (l.length + 1) (fun gk s i wr => ∃ (k : Nat) (acc : List UInt8), l.length < gk + k ∧ k ≤ l.length ∧ i = .int .i64 (k : Int) ∧ s = .string ⟨acc.toArray⟩ ∧ acc.length ≤ 2160 ∧ Hid ((l.take k).flatMap showThing = acc) ∧ Hid (Below w.heap.size w wr))
  case atStart => exact ⟨0, [], by omega, by omega, rfl, rfl, by simp, hideP rfl, HB⟩
  case round =>
    clear HB
    obtain ⟨k, acc, hgk, hk, rfl, rfl, hal, hv, HB⟩ := hrel
    by_cases hlt : k < l.length
    · obtain ⟨x, hx⟩ := some_at (l := l) (k := k) hlt
      obtain ⟨b, o, vl, vd, vq, rfl, hbr, hth, hz9⟩ := HR.out.below HB.out k x hx
      obtain ⟨⟨s1, s2, s3⟩, hw⟩ := HS.out x (List.mem_of_getElem? hx)
      have HT := hideP hth
      clear hth
      obtain ⟨al, cl, rfl⟩ := HT.out.l.shape
      obtain ⟨ad, cd, rfl⟩ := HT.out.d.shape
      obtain ⟨aq, cq, rfl⟩ := HT.out.q.shape
      have g0 : World.cell? _ ⟨b, o + k * 13, none⟩ = some (.int .i64 x.gen) := hz9 0 _ rfl
      have g1 : World.cell? _ ⟨b, o + k * 13 + 1, none⟩ = some (.int .i64 x.kind) := hz9 1 _ rfl
      have g2 : World.cell? _ ⟨b, o + k * 13 + 2, none⟩ = some (.int .i64 x.box) := hz9 2 _ rfl
      have g3 : World.cell? _ ⟨b, o + k * 13 + 3, none⟩ = some (.int .i64 x.res) := hz9 3 _ rfl
      have g4 : World.cell? _ ⟨b, o + k * 13 + 4, none⟩ = some (.int .i64 x.til) := hz9 4 _ rfl
      have g5 : World.cell? _ ⟨b, o + k * 13 + 5, none⟩ = some (.int .i64 x.pages) := hz9 5 _ rfl
      have g6 : World.cell? _ ⟨b, o + k * 13 + 6, none⟩ = some (.int .i64 x.wait) := hz9 6 _ rfl
      have g7 : World.cell? _ ⟨b, o + k * 13 + 7, none⟩ = some (.int .i64 x.got) := hz9 7 _ rfl
      have g8 : World.cell? _ ⟨b, o + k * 13 + 8, none⟩ = some (.int .i64 x.ran) := hz9 8 _ rfl
      have g9 : World.cell? _ ⟨b, o + k * 13 + 9, none⟩ = some (.bool x.mark) := hz9 9 _ rfl
      have g10 : World.cell? _ ⟨b, o + k * 13 + 10, none⟩ = some (.slice al x.links.length cl) := hz9 10 _ rfl
      have g11 : World.cell? _ ⟨b, o + k * 13 + 11, none⟩ = some (.slice ad x.data.length cd) := hz9 11 _ rfl
      have g12 : World.cell? _ ⟨b, o + k * 13 + 12, none⟩ = some (.slice aq x.queue.length cq) := hz9 12 _ rfl
      have k0 : (0 : Int) ≤ (k : Int) := by omega
      have k1 : (k : Int) < (l.length : Int) := by omega
      have HV : Hid ((l.take (k + 1)).flatMap showThing = acc ++ showThing x) := hideP (by rw [shows_next hx, hv.out])
      have hal2 : (acc ++ showThing x).length ≤ 2160 := by rw [← HV.out]; exact shows_take l HL.out _
      have HAL := Lib.hid hal2
      have hsl := showThing_len x
      clear hx hz9 hal2
      go_wp2_with fail
      refine (specShowObj_any x _ _ _ s1 s2 s3 hw _ HT.out).mono ?_
      rintro e w2 ⟨rfl, hb2⟩
      have HB := hideP (HB.out.trans (hb2.mono HB.out.size))
      clear hb2 HT g0 g1 g2 g3 g4 g5 g6 g7 g8 g9 g10 g11 g12
      go_wp2
      go_roundg (gk - 1)
      case measure => omega
      case rel => exact ⟨k + 1, _, by omega, by omega, by go_num, (by rw [ByteArray.mk_append_mk]; try rfl), HAL.out, HV, HB⟩
    · have HV : Hid (l.flatMap showThing = acc) := hideP (by rw [← hv.out, List.take_of_length_le (by omega)])
      have d1 : ¬ ((k : Int) < (l.length : Int)) := by omega
      go_wp2
      go_ret
      exact ⟨by rw [HN.out, HV.out]; rfl, HB.out⟩

end Go.Proofs.Ytnchmenpgmlpdaa

namespace Go.Proofs.Ytnchmenpgmlpdaa
open Go.RowKit

def rdThings (l : List UInt8) : Nat → Option (List Thing × Nat)
  | 0 => some ([], 0)
  | k + 1 => (rdThings l k).bind fun p => (readThing (l.drop p.2)).map fun q => (p.1 ++ [q.1], p.2 + q.2)
def readArena (l : List UInt8) : Option (List Thing) := (rdThings l 10).bind fun p => if (decide (p.2 = l.length) && arenaOk p.1) = true then some p.1 else none
def arenaRes (l : List UInt8) : List Thing := (readArena l).getD []
theorem rd_step {l : List UInt8} {k a n : Nat} {xs : List Thing} {o : Thing} (h : rdThings l k = some (xs, a)) (hr : readThing (l.drop a) = some (o, n)) : rdThings l (k + 1) = some (xs ++ [o], a + n) := by
  rw [rdThings, h]
  show (readThing (l.drop a)).map _ = _
  rw [hr]
  rfl
theorem rd_stop {l : List UInt8} {k a : Nat} {xs : List Thing} (h : rdThings l k = some (xs, a)) (hr : readThing (l.drop a) = none) : rdThings l (k + 1) = none := by
  rw [rdThings, h]
  show (readThing (l.drop a)).map _ = _
  rw [hr]
  rfl
theorem rd_none {l : List UInt8} {k : Nat} (h : rdThings l k = none) : ∀ {m : Nat}, k ≤ m → rdThings l m = none
  | 0, hm => by
    have : k = 0 := by omega
    subst this
    exact h
  | m + 1, hm => by
    by_cases e : k = m + 1
    · subst e; exact h
    · rw [rdThings, rd_none h (by omega)]; rfl
theorem readThing_pos {l : List UInt8} {o : Thing} {k : Nat} (h : readThing l = some (o, k)) : 0 < k := by
  unfold readThing at h
  obtain ⟨⟨hh, lk, dt, qu, d⟩, q, h2⟩ := Option.bind_eq_some_iff.1 h
  obtain ⟨p1, _⟩ := read4_le q
  dsimp only at h2
  split at h2
  · cases h2; exact p1
  · cases h2
theorem thingRes_no {l : List UInt8} {o : Thing} (h : thingRes l = (o, 0)) : readThing l = none := by
  unfold thingRes at h
  cases hr : readThing l with
  | none => rfl
  | some p =>
    rw [hr] at h
    have e : p = (o, 0) := h
    rw [e] at hr
    exact absurd (readThing_pos hr) (by omega)
theorem thingRes_yes {l : List UInt8} {o : Thing} {n : Nat} (h : thingRes l = (o, n)) (hn : n ≠ 0) : readThing l = some (o, n) := by
  unfold thingRes at h
  cases hr : readThing l with
  | none =>
    rw [hr] at h
    have e : (noThing 0, 0) = (o, n) := h
    cases e
    exact absurd rfl hn
  | some p =>
    rw [hr] at h
    have e : p = (o, n) := h
    rw [e]
theorem eats_from {l : List UInt8} {a n : Nat} {xs : List UInt8} (h : Eats (l.drop a) 0 xs n) (ha : a ≤ l.length) : Eats l a xs (a + n) := by
  obtain ⟨rest, h1, h2, h3⟩ := h
  rw [List.length_drop] at h3
  exact ⟨rest, by simpa using h1, by omega, by omega⟩
theorem rd_good {l : List UInt8} : ∀ {k a : Nat} {xs : List Thing}, rdThings l k = some (xs, a) → xs.length = k ∧ Eats l 0 (xs.flatMap thingShow) a ∧ ∀ x ∈ xs, thingOk x = true
  | 0, a, xs, h => by
    cases h
    exact ⟨rfl, Eats.nil (Nat.zero_le _), by simp⟩
  | k + 1, a, xs, h => by
    rw [rdThings] at h
    obtain ⟨⟨ys, b⟩, h1, h2⟩ := Option.bind_eq_some_iff.1 h
    obtain ⟨⟨o, n⟩, h3, h4⟩ := Option.map_eq_some_iff.1 h2
    dsimp only at h3 h4
    cases h4
    obtain ⟨i1, i2, i3⟩ := rd_good h1
    obtain ⟨b1, b2⟩ := readThing_begins h3
    refine ⟨by rw [List.length_append, i1]; rfl, ?_, ?_⟩
    · rw [List.flatMap_append]
      have := i2.trans (eats_from b2 i2.le.1)
      simpa using this
    · intro x hx
      rcases List.mem_append.1 hx with hx | hx
      · exact i3 x hx
      · simp at hx; subst hx; exact b1
theorem rd_le {l : List UInt8} {k a : Nat} {xs : List Thing} (h : rdThings l k = some (xs, a)) : a ≤ l.length := (rd_good h).2.1.le.1
theorem rd_pos {l : List UInt8} {k a : Nat} {xs : List Thing} (h : rdThings l (k + 1) = some (xs, a)) : 0 < a := by
  rw [rdThings] at h
  obtain ⟨⟨ys, b⟩, h1, h2⟩ := Option.bind_eq_some_iff.1 h
  obtain ⟨⟨o, n⟩, h3, h4⟩ := Option.map_eq_some_iff.1 h2
  dsimp only at h3 h4
  cases h4
  have := readThing_pos h3
  omega
theorem shows_same {xs : List Thing} (h : ∀ x ∈ xs, thingOk x = true) : xs.flatMap showThing = xs.flatMap thingShow := by
  induction xs with
  | nil => rfl
  | cons x xs ih =>
    rw [List.flatMap_cons, List.flatMap_cons, ih (fun y hy => h y (by simp [hy]))]
    congr 1
    unfold showThing
    rw [if_pos (h x (by simp))]
theorem arena_read {l : List UInt8} {a : Nat} {xs : List Thing} (h : rdThings l 10 = some (xs, a)) : showArena xs = l ↔ (a = l.length ∧ arenaOk xs = true) := by
  obtain ⟨h1, h2, h3⟩ := rd_good h
  have hp := rd_pos h
  have hd := h2.drop
  obtain ⟨hle, ha⟩ := h2.le
  rw [List.drop_zero] at hd
  unfold showArena
  cases hok : arenaOk xs
  · rw [if_neg (by decide)]
    constructor
    · intro e
      rw [← e] at hle
      simp at hle
      omega
    · intro e
      exact absurd e.2 (by decide)
  · rw [if_pos rfl, shows_same h3]
    constructor
    · intro e
      refine ⟨?_, rfl⟩
      have := congrArg List.length e
      omega
    · rintro ⟨e, _⟩
      conv => rhs; rw [hd]
      rw [e, List.drop_length, List.append_nil]
theorem readArena_at {l : List UInt8} {a : Nat} {xs : List Thing} (h : rdThings l 10 = some (xs, a)) : readArena l = if (decide (a = l.length) && arenaOk xs) = true then some xs else none := by
  unfold readArena
  rw [h]
  rfl
theorem readArena_no {l : List UInt8} (h : rdThings l 10 = none) : readArena l = none := by
  unfold readArena
  rw [h]
  rfl
theorem readArena_yes {l : List UInt8} {a : Nat} {xs : List Thing} (h : rdThings l 10 = some (xs, a)) (h1 : a = l.length) (h2 : arenaOk xs = true) : readArena l = some xs := by
  rw [readArena_at h, h2, decide_eq_true h1]; rfl
theorem readArena_bad {l : List UInt8} {a : Nat} {xs : List Thing} (h : rdThings l 10 = some (xs, a)) (h1 : a ≠ l.length ∨ arenaOk xs = false) : readArena l = none := by
  rw [readArena_at h]
  rcases h1 with h1 | h1 <;> simp [h1]
theorem arenaRes_ok (l : List UInt8) : ∀ x ∈ arenaRes l, thingOk x = true := by
  unfold arenaRes
  cases h : rdThings l 10 with
  | none => rw [readArena_no h]; simp
  | some p =>
    obtain ⟨xs, a⟩ := p
    rw [readArena_at h]
    split
    · exact (rd_good h).2.2
    · simp
theorem arenaRes_len (l : List UInt8) : (arenaRes l).length ≤ 10 := by
  unfold arenaRes
  cases h : rdThings l 10 with
  | none => rw [readArena_no h]; simp
  | some p =>
    obtain ⟨xs, a⟩ := p
    rw [readArena_at h]
    split
    · have := (rd_good h).1
      simp; omega
    · simp
theorem good_short {xs : List Thing} (h : ∀ x ∈ xs, thingOk x = true) : Short 1048576 xs := fun x hx => by
  have g := thing_good (h x hx)
  have h1 := g.links
  have h2 := g.data
  have h3 := g.queue
  have h4 := g.wait
  exact ⟨⟨by omega, by omega, by omega⟩, hideP (by unfold I64; omega)⟩
theorem good_marks {xs : List Thing} (h : ∀ x ∈ xs, thingOk x = true) (hl : xs.length ≤ 10) : qAt 1 xs xs.length ≤ 900000000000 := by
  have hs : ∀ (ys : List Thing), (∀ x ∈ ys, thingOk x = true) → (ys.map thingMarks).sum ≤ 24 * ys.length := by
    intro ys
    induction ys with
    | nil => simp
    | cons y ys ih =>
      intro hy
      have h1 := ih (fun z hz => hy z (by simp [hz]))
      have g := thing_good (hy y (by simp))
      have h2 := g.links
      have h3 := g.data
      have h4 := g.queue
      rw [List.map_cons, List.sum_cons, List.length_cons]
      unfold thingMarks at *
      omega
  have := hs xs h
  unfold qAt
  rw [List.take_length]
  omega
/-- What ReadArena hands back. -/
def ArenaRet (w : World) (l : List UInt8) (e : Ending) (w' : World) : Prop :=
  ∃ v rs, e = .returned (.tuple #[v, .bool (readArena l).isSome]) ∧ RowsOwn KThing w' w.heap.size v (arenaRes l).length (arenaRes l) rs [] ∧ Below w.heap.size w w'
theorem ArenaRet.no {w w' : World} {l : List UInt8} {v : Value} (h : readArena l = none) (ho : w'.ownsRow w.heap.size 71 13 v 0 []) (hb : Below w.heap.size w w') : ArenaRet w l (.returned (.tuple #[v, .bool false])) w' := by
  unfold ArenaRet arenaRes
  rw [h]
  exact ⟨v, [], rfl, RowsOwn.nil (K := KThing) (l := []) ho, hb⟩
theorem ArenaRet.yes {w w' : World} {l : List UInt8} {xs : List Thing} {v : Value} {rs : List (List Value)} (h : readArena l = some xs) (ho : RowsOwn KThing w' w.heap.size v xs.length xs rs []) (hb : Below w.heap.size w w') : ArenaRet w l (.returned (.tuple #[v, .bool true])) w' := by
  unfold ArenaRet arenaRes
  rw [h]
  exact ⟨v, rs, rfl, ho, hb⟩
/-- One more element is appended. -/
theorem RowsOwn.append {α : Type} {K : Kind α} {w w' : World} {base N : Nat} {v v' : Value} {l : List α} {rs : List (List Value)} {x : α} {vs : List Value} (h : RowsOwn K w base v l.length l rs []) (ho : K.own w base x vs)
    (hr : w'.ownsRow base K.T K.s v' (l.length + 1) (flatC K l rs ++ K.cells x vs)) (hg : w.grownBy w' v.ownBlock) {M : Nat} (hat : v'.ownBlock = v.ownBlock ∨ v'.ownBlock = some M) (hM : M = w.heap.size)
    (h1 : ∀ (i : Nat) (a : List Value), rs[i]? = some a → ∀ q, mineL a q → q < N) (h2 : ∀ q, mineL vs q → N ≤ q) (h3 : ∀ q, mineL vs q → v.ownBlock ≠ some q) : RowsOwn K w' base v' (l ++ [x]).length (l ++ [x]) (rs ++ [vs]) [] := by
  subst hM
  have hk : KeptP (fun q => v.ownBlock = some q) w w' := KeptP.of_grown hg
  refine ⟨?_, by rw [List.length_append, List.length_append, h.len]; rfl, ?_, h.rise.snoc h1 h2, ?_⟩
  · rw [flatC_snoc K h.len, List.append_nil, List.length_append]
    exact hr
  · intro k y us hy hu
    rcases snoc_get hu with ⟨hk1, hu⟩ | ⟨hk1, rfl⟩
    · rcases snoc_get hy with ⟨_, hy⟩ | ⟨hk2, _⟩
      · exact K.kept (h.el k y us hy hu) hk (fun q hq e => h.off q e k us hu hq)
      · rw [h.len] at hk1; omega
    · rcases snoc_get hy with ⟨hk2, _⟩ | ⟨_, rfl⟩
      · rw [h.len] at hk1; omega
      · exact K.kept ho hk (fun q hq e => h3 q hq e)
  · intro q hq k us hu hm
    rcases hat with e | e
    · rw [e] at hq
      rcases snoc_get hu with ⟨_, hu⟩ | ⟨_, rfl⟩
      · exact h.off q hq k us hu hm
      · exact h3 q hm hq
    · rw [e] at hq
      cases hq
      rcases snoc_get hu with ⟨_, hu⟩ | ⟨_, rfl⟩
      · obtain ⟨y, _, hy⟩ := h.back hu
        exact absurd (K.lt hy _ hm).2 (Nat.lt_irrefl _)
      · exact absurd (K.lt ho _ hm).2 (Nat.lt_irrefl _)

end Go.Proofs.Ytnchmenpgmlpdaa

namespace Go.Proofs.Ytnchmenpgmlpdaa
open Go.RowKit


theorem wpList_append_rdat {P : Program} (w : World) {ops : Array Oper} {rest : List Oper} {o : Oper} {a : Act} {Q : Exit → Act → World → Prop} (hgd : o.guard = none) (s x : Operand) (t : TypeId)
    (ho : o.op = .call { callee := .builtin .append, args := #[s, x], argTypes := #[t, t] })
    (base : Nat) (e : TypeId) (i : TypeInfo) (z : Value) (size bytes : Nat) (ht : P.underlying t = some (.slice e)) (hi : P.info? e = some i) (hz : i.zero = some z)
    (hsize : i.size = size) (hby : i.bytes = bytes) (hzs : z.cells.size = size) (hsz : 0 < size)
    (v : Value) (n : Nat) (xs : List Value) (hs : a.eval s = v) (hown : w.ownsRow base e size v n xs)
    (ao : Option Addr) (m c : Nat) (news : List Value) (hx : a.eval x = .slice ao m c) (hl : news.length = m * size) (hr : Rd w ao news) (h1 : ∀ u ∈ news, u.oneCell' = true)
    (h63 : n + m ≤ maxLen) (hbytes : (n + m) * bytes ≤ 140737488355328) (hbase : base ≤ w.heap.size)
    (h : ∀ v' w', w'.ownsRow base e size v' (n + m) (xs ++ news) → w.grownBy w' v.ownBlock → (v'.ownBlock = v.ownBlock ∨ v'.ownBlock = some w.heap.size) → wpList P ops Q rest (a.put o.dst v') w') : wpList P ops Q (o :: rest) a w := by
  cases ao with
  | some ad =>
    refine wpList_append_own_at w hgd s x t ho base e i z size bytes ht hi hz hsize hby hzs hsz v n xs hs hown ad m c news hx hl ?_ h1 h63 hbytes hbase (fun v' w' h2 h3 _ h4 => h v' w' h2 h3 h4)
    rcases hr with hr | ⟨b, off, ha, _, hc⟩
    · subst hr; simp
    · cases ha
      intro j u hu
      rw [add_off]
      exact hc j u hu
  | none =>
    have hnil : news = [] := by
      rcases hr with hr | ⟨b, off, ha, _⟩
      · exact hr
      · cases ha
    subst hnil
    have hm : m = 0 := by
      cases m with
      | zero => rfl
      | succ m => rw [Nat.add_mul, List.length_nil] at hl; omega
    subst hm
    refine wpList_plain hgd fun K hK' => ?_
    have hrun := run_append_none_any (P := P) w base t o.type e i size ht hi v n c xs hown
    unfold Oper.wp
    simp [execOp, ho, resolve, invoke, builtin, hs, hx, hrun, Result.andThen]
    exact hK' _ _ (by simpa using h v w (by simpa using hown) (World.grownBy.refl _ _) (Or.inl rfl))

/-- The slice at q lies in no block of the value v. -/
def AP (q : Option Addr) (v : Value) : Prop := ∀ b o s, q = some ⟨b, o, s⟩ → v.ownBlock ≠ some b
theorem AP.next {q : Option Addr} {v v' : Value} {n : Nat} (h : AP q v) (hv : v'.ownBlock = v.ownBlock ∨ v'.ownBlock = some n) (hq : ∀ b o s, q = some ⟨b, o, s⟩ → b < n) : AP q v' := by
  intro b o s e
  rcases hv with hv | hv
  · rw [hv]; exact h b o s e
  · rw [hv]; intro z; cases z; exact absurd (hq _ o s e) (Nat.lt_irrefl _)
theorem Rd.grownA {w w' : World} {a : Option Addr} {xs : List Value} {v : Value} (h : Rd w a xs) (hg : w.grownBy w' v.ownBlock) (ha : AP a v) : Rd w' a xs := by
  rcases h with h | ⟨b, o, rfl, hlt, hc⟩
  · exact .inl h
  · refine .inr ⟨b, o, rfl, Nat.lt_of_lt_of_le hlt hg.size, fun i u hu => ?_⟩
    have hk := hg.block b hlt (fun z => ha b o none rfl z.symm)
    have h0 := hc i u hu
    rw [← h0]
    unfold World.cell?
    dsimp only
    rw [hk]

end Go.Proofs.Ytnchmenpgmlpdaa

namespace Go.Proofs.Ytnchmenpgmlpdaa
open Go.RowKit

set_option maxRecDepth 100000 in
set_option maxHeartbeats 8000000 in
theorem implReadArena_any (s : ByteArray) (hs : s.size ≤ maxLen) (w : World) : Calls Try.prog 54 #[.string s] w (ArenaRet w (bl s)) := by
  have HS := hideP hs
  unfold maxLen at hs
  obtain ⟨i0, hi, hz0, hz1, hz2⟩ := info_parts Try.infoObj
  have H0 : Hid (RowsOwn KThing (w.alloc (.cells #[] 71)) w.heap.size (.slice (some ⟨w.heap.size, 0, none⟩) 0 0) ([] : List Thing).length [] [] []) := hideP (RowsOwn.nil (K := KThing) (l := []) (owns_lit (Nat.le_refl _) rfl (by decide) rfl rfl))
  have HB := hideP (below_a1 w (.cells #[] 71))
  go_enter Try.func54, Try.ntmps54
  go_wp2
  go_loopg [4, 5, 9] 11 (fun gk v av iv wr => ∃ (k a : Nat) (xs : List Thing) (rs : List (List Value)), 10 < gk + k ∧ k ≤ 10 ∧ iv = .int .i64 (k : Int) ∧ av = .int .i64 (a : Int) ∧ a ≤ s.size ∧ xs.length ≤ 10 ∧ Hid (rdThings (bl s) k = some (xs, a)) ∧ Hid (RowsOwn KThing wr w.heap.size v xs.length xs rs []) ∧ Hid (Below w.heap.size w wr))
  case atStart => exact ⟨0, 0, [], [], by omega, by omega, rfl, rfl, by omega, by simp, hideP rfl, H0, HB⟩
  case round =>
    clear H0 HB
    obtain ⟨k, a, xs, rs, hgk, hk, rfl, rfl, ha, hxl, hrd, HO, HB⟩ := hrel
    by_cases hlt : k < 10
    · have HV : Hid (∀ W, Calls Try.prog 45 #[.string (s.extract a s.size)] W (ThingRet W ((bl s).drop a))) := hideP (fun W => by
        have := implReadObj_any (s.extract a s.size) (by unfold maxLen; rw [ByteArray.size_extract]; omega) W
        rwa [bl_from] at this)
      have hai : (a : Int) ≤ (s.size : Int) := by omega
      have k0 : (0 : Int) ≤ (a : Int) := by omega
      have k5 : (k : Int) < 10 := by omega
      go_wp2_with fail
      refine (HV.out _).mono ?_
      rintro e w2 ⟨o, n, vl, vd, vq, hres, rfl, ho, hb2⟩
      obtain ⟨al, cl, rfl, _⟩ := owns_slice ho.l
      obtain ⟨ad, cd, rfl, _⟩ := owns_slice ho.d
      obtain ⟨aq, cq, rfl, _⟩ := owns_slice ho.q
      have HB2 := hideP (HB.out.trans (hb2.mono HB.out.size))
      by_cases hz : n = 0
      · have HN : Hid (readArena (bl s) = none) := hideP (readArena_no (rd_none (rd_stop hrd.out (thingRes_no (by rw [hres, hz]))) (show k + 1 ≤ 10 by omega)))
        have d1 : ((n : Int) == 0) = true := by simp [hz]
        have hb3 := HB2.out.alloc HB2.out.size (.cells #[.int .i64 o.gen, .int .i64 o.kind, .int .i64 o.box, .int .i64 o.res, .int .i64 o.til, .int .i64 o.pages, .int .i64 o.wait, .int .i64 o.got, .int .i64 o.ran, .bool o.mark, .slice al o.links.length cl, .slice ad o.data.length cd, .slice aq o.queue.length cq] 71)
        clear hz hres
        go_wp2
        go_ret2
        exact ArenaRet.no HN.out (owns_nil' _ _ _ _) hb3
      · have hrt := thingRes_yes hres hz
        have HRD := hideP (rd_step hrd.out hrt)
        have han : a + n ≤ s.size := by have := rd_le HRD.out; rwa [bl_length] at this
        have hxs : Hid (xs.length = k) := hideP (rd_good hrd.out).1
        have hxk : xs.length ≤ k := by have := hxs.out; omega
        have d1 : ((n : Int) == 0) = false := by simp; omega
        have HO2 := hideP (HO.out.below hb2)
        have HE : KThing.own w2 wr.heap.size o [.slice al o.links.length cl, .slice ad o.data.length cd, .slice aq o.queue.length cq] := ⟨_, _, _, rfl, ho⟩
        have HN : Hid (∀ q, mineL [.slice al o.links.length cl, .slice ad o.data.length cd, .slice aq o.queue.length cq] q → wr.heap.size ≤ q) := hideP (fun q hq => (KThing.lt HE q hq).1)
        have HL : Hid (∀ (i : Nat) (a : List Value), rs[i]? = some a → ∀ q, mineL a q → q < wr.heap.size) := hideP (fun i a ha q hq => (HO.out.lt ha hq).2)
        have HVB : Hid (∀ q, _ = some q → q < wr.heap.size) := hideP (fun q (e : Value.ownBlock _ = some q) => (HO.out.row.lt q e).2)
        have HE := hideP (KThing.mono HE HB.out.size)
        have hz2w := HB2.out.size
        clear hz hres hrt hb2 ho HO HB
        go_wp2_with (at_builtin; refine wpList_append_rdat _ rfl _ _ 81 rfl w.heap.size 71 i0 (.agg #[.int .i64 0, .int .i64 0, .int .i64 0, .int .i64 0, .int .i64 0, .int .i64 0, .int .i64 0, .int .i64 0, .int .i64 0, .bool false, .slice none 0 0, .slice none 0 0, .slice none 0 0]) 13 152 Try.underlying81 hi hz0 hz1 hz2 rfl (by decide) _ _ _ rfl (World.ownsRow.alloc (World.ownsRow.alloc HO2.out.row _) _) _ 1 1 (Thing.cells o (.slice al o.links.length cl) (.slice ad o.data.length cd) (.slice aq o.queue.length cq)) rfl rfl (rd_litg (by rfl) (by simp)) ?c1 ?c2 ?c3 ?c4 ?_)
        case c1 => simp [Value.oneCell', Thing.cells]
        case c2 => unfold maxLen; omega
        case c3 => omega
        case c4 => simp; omega
        intro v9 w9 ho9 hg9 hat9
        have HBB := HB2.out.trans ((below_a2 w2 (.cells #[.int .i64 o.gen, .int .i64 o.kind, .int .i64 o.box, .int .i64 o.res, .int .i64 o.til, .int .i64 o.pages, .int .i64 o.wait, .int .i64 o.got, .int .i64 o.ran, .bool o.mark, .slice al o.links.length cl, .slice ad o.data.length cd, .slice aq o.queue.length cq] 71) (.cells #[.int .i64 o.gen, .int .i64 o.kind, .int .i64 o.box, .int .i64 o.res, .int .i64 o.til, .int .i64 o.pages, .int .i64 o.wait, .int .i64 o.got, .int .i64 o.ran, .bool o.mark, .slice al o.links.length cl, .slice ad o.data.length cd, .slice aq o.queue.length cq] 71)).mono hz2w)
        have HO3 := HO2.out.below (below_a2 w2 (.cells #[.int .i64 o.gen, .int .i64 o.kind, .int .i64 o.box, .int .i64 o.res, .int .i64 o.til, .int .i64 o.pages, .int .i64 o.wait, .int .i64 o.got, .int .i64 o.ran, .bool o.mark, .slice al o.links.length cl, .slice ad o.data.length cd, .slice aq o.queue.length cq] 71) (.cells #[.int .i64 o.gen, .int .i64 o.kind, .int .i64 o.box, .int .i64 o.res, .int .i64 o.til, .int .i64 o.pages, .int .i64 o.wait, .int .i64 o.got, .int .i64 o.ran, .bool o.mark, .slice al o.links.length cl, .slice ad o.data.length cd, .slice aq o.queue.length cq] 71))
        have HE3 := KThing.kept (P := fun _ => False) HE.out (KeptP.of_below (below_a2 w2 (.cells #[.int .i64 o.gen, .int .i64 o.kind, .int .i64 o.box, .int .i64 o.res, .int .i64 o.til, .int .i64 o.pages, .int .i64 o.wait, .int .i64 o.got, .int .i64 o.ran, .bool o.mark, .slice al o.links.length cl, .slice ad o.data.length cd, .slice aq o.queue.length cq] 71) (.cells #[.int .i64 o.gen, .int .i64 o.kind, .int .i64 o.box, .int .i64 o.res, .int .i64 o.til, .int .i64 o.pages, .int .i64 o.wait, .int .i64 o.got, .int .i64 o.ran, .bool o.mark, .slice al o.links.length cl, .slice ad o.data.length cd, .slice aq o.queue.length cq] 71))) (fun _ _ e => e)
        have HP := hideP (RowsOwn.append HO3 HE3 ho9 hg9 hat9 (by simp) HL.out HN.out (fun q hq e => by have h1 := HN.out q hq; have h2 := HVB.out q e; omega))
        have HB9 := hideP (HBB.grown hg9 HBB.size (fun q e => (HO3.row.lt q e).1))
        have hl9 : (xs ++ [o]).length ≤ 10 := by rw [List.length_append, List.length_singleton]; omega
        clear ho9 hg9 hat9 HBB HO3 HE3 HO2 HE HN HL HVB HB2 hrd hxs
        go_wp2
        go_roundg (gk - 1)
        case measure => omega
        case rel => exact ⟨k + 1, a + n, xs ++ [o], _, by omega, by omega, by go_num, by go_num, han, hl9, HRD, HP, HB9⟩
    · have HRD : Hid (rdThings (bl s) 10 = some (xs, a)) := hideP (by rw [← show k = 10 by omega]; exact hrd.out)
      have HSH := hideP (good_short (rd_good HRD.out).2.2)
      obtain ⟨pv, cv, rfl, _⟩ := owns_slice HO.out.row
      have hl6 : xs.length ≤ 1048576 := by omega
      have d1 : ¬ ((k : Int) < 10) := by omega
      clear hrd
      by_cases hae : a = s.size
      · have d2 : ((a : Int) != (s.size : Int)) = false := by simp [hae]
        have HAE := hideP hae
        clear hae
        go_wp2_with fail
        refine (implArenaOk_any xs pv cv hl6 HSH.out _ (ThingsOwn.rd HO.out)).mono ?_
        rintro e w3 ⟨rfl, hb3⟩
        have HO3 := hideP (HO.out.below hb3)
        have HB3 := hideP (HB.out.trans (hb3.mono HB.out.size))
        clear hb3 HO HB
        cases hok : arenaOk xs
        · have HN := hideP (readArena_bad HRD.out (.inr hok))
          clear hok
          go_wp2
          go_ret2
          exact ArenaRet.no HN.out (owns_nil' _ _ _ _) HB3.out
        · have HN := hideP (readArena_yes HRD.out (by rw [bl_length]; exact HAE.out) hok)
          clear hok
          go_wp2
          go_ret2
          exact ArenaRet.yes HN.out HO3.out HB3.out
      · have HN := hideP (readArena_bad HRD.out (.inl (by rw [bl_length]; exact hae)))
        have d2 : ((a : Int) != (s.size : Int)) = true := by simp; omega
        clear hae
        go_wp2
        go_ret2
        exact ArenaRet.no HN.out (owns_nil' _ _ _ _) HB.out

end Go.Proofs.Ytnchmenpgmlpdaa

namespace Go.Proofs.Ytnchmenpgmlpdaa
open Go.RowKit

set_option maxRecDepth 100000 in
set_option maxHeartbeats 8000000 in
theorem specReadArena_any (s : ByteArray) (hs : s.size ≤ maxLen) (w : World) : Calls Try.prog 53 #[.string s] w (ArenaRet w (bl s)) := by
  have HS := hideP hs
  unfold maxLen at hs
  obtain ⟨i0, hi, hz0, hz1, hz2⟩ := info_parts Try.infoObj
  have H0 : Hid (RowsOwn KThing (w.alloc (.cells #[] 71)) w.heap.size (.slice (some ⟨w.heap.size, 0, none⟩) 0 0) ([] : List Thing).length [] [] []) := hideP (RowsOwn.nil (K := KThing) (l := []) (owns_lit (Nat.le_refl _) rfl (by decide) rfl rfl))
  have HB := hideP (below_a1 w (.cells #[] 71))
  go_enter Try.func53, Try.ntmps53
  go_wp2
  go_loopg [4, 5, 6] 11 (fun gk v av iv wr => ∃ (k a : Nat) (xs : List Thing) (rs : List (List Value)), 10 < gk + k ∧ k ≤ 10 ∧ iv = .int .i64 (k : Int) ∧ av = .int .i64 (a : Int) ∧ a ≤ s.size ∧ xs.length ≤ 10 ∧ Hid (rdThings (bl s) k = some (xs, a)) ∧ Hid (RowsOwn KThing wr w.heap.size v xs.length xs rs []) ∧ Hid (Below w.heap.size w wr))
  case atStart => exact ⟨0, 0, [], [], by omega, by omega, rfl, rfl, by omega, by simp, hideP rfl, H0, HB⟩
  case round =>
    clear H0 HB
    obtain ⟨k, a, xs, rs, hgk, hk, rfl, rfl, ha, hxl, hrd, HO, HB⟩ := hrel
    by_cases hlt : k < 10
    · have HV : Hid (∀ W, Calls Try.prog 44 #[.string (s.extract a s.size)] W (ThingRet W ((bl s).drop a))) := hideP (fun W => by
        have := specReadObj_any (s.extract a s.size) (by unfold maxLen; rw [ByteArray.size_extract]; omega) W
        rwa [bl_from] at this)
      have hai : (a : Int) ≤ (s.size : Int) := by omega
      have k0 : (0 : Int) ≤ (a : Int) := by omega
      have k5 : (k : Int) < 10 := by omega
      go_wp2_with fail
      refine (HV.out _).mono ?_
      rintro e w2 ⟨o, n, vl, vd, vq, hres, rfl, ho, hb2⟩
      obtain ⟨al, cl, rfl, _⟩ := owns_slice ho.l
      obtain ⟨ad, cd, rfl, _⟩ := owns_slice ho.d
      obtain ⟨aq, cq, rfl, _⟩ := owns_slice ho.q
      have HB2 := hideP (HB.out.trans (hb2.mono HB.out.size))
      by_cases hz : n = 0
      · have HN : Hid (readArena (bl s) = none) := hideP (readArena_no (rd_none (rd_stop hrd.out (thingRes_no (by rw [hres, hz]))) (show k + 1 ≤ 10 by omega)))
        have d1 : ((n : Int) == 0) = true := by simp [hz]
        have hb3 := HB2.out.alloc HB2.out.size (.cells #[.int .i64 o.gen, .int .i64 o.kind, .int .i64 o.box, .int .i64 o.res, .int .i64 o.til, .int .i64 o.pages, .int .i64 o.wait, .int .i64 o.got, .int .i64 o.ran, .bool o.mark, .slice al o.links.length cl, .slice ad o.data.length cd, .slice aq o.queue.length cq] 71)
        clear hz hres
        go_wp2
        go_ret2
        exact ArenaRet.no HN.out (owns_lit hb3.size (by first | rfl | simp) (by decide) rfl rfl) (hb3.alloc hb3.size _)
      · have hrt := thingRes_yes hres hz
        have HRD := hideP (rd_step hrd.out hrt)
        have han : a + n ≤ s.size := by have := rd_le HRD.out; rwa [bl_length] at this
        have hxs : Hid (xs.length = k) := hideP (rd_good hrd.out).1
        have hxk : xs.length ≤ k := by have := hxs.out; omega
        have d1 : ((n : Int) == 0) = false := by simp; omega
        have HO2 := hideP (HO.out.below hb2)
        have HE : KThing.own w2 wr.heap.size o [.slice al o.links.length cl, .slice ad o.data.length cd, .slice aq o.queue.length cq] := ⟨_, _, _, rfl, ho⟩
        have HN : Hid (∀ q, mineL [.slice al o.links.length cl, .slice ad o.data.length cd, .slice aq o.queue.length cq] q → wr.heap.size ≤ q) := hideP (fun q hq => (KThing.lt HE q hq).1)
        have HL : Hid (∀ (i : Nat) (a : List Value), rs[i]? = some a → ∀ q, mineL a q → q < wr.heap.size) := hideP (fun i a ha q hq => (HO.out.lt ha hq).2)
        have HVB : Hid (∀ q, _ = some q → q < wr.heap.size) := hideP (fun q (e : Value.ownBlock _ = some q) => (HO.out.row.lt q e).2)
        have HE := hideP (KThing.mono HE HB.out.size)
        have hz2w := HB2.out.size
        clear hz hres hrt hb2 ho HO HB
        go_wp2_with (at_builtin; refine wpList_append_rdat _ rfl _ _ 81 rfl w.heap.size 71 i0 (.agg #[.int .i64 0, .int .i64 0, .int .i64 0, .int .i64 0, .int .i64 0, .int .i64 0, .int .i64 0, .int .i64 0, .int .i64 0, .bool false, .slice none 0 0, .slice none 0 0, .slice none 0 0]) 13 152 Try.underlying81 hi hz0 hz1 hz2 rfl (by decide) _ _ _ rfl (World.ownsRow.alloc (World.ownsRow.alloc HO2.out.row _) _) _ 1 1 (Thing.cells o (.slice al o.links.length cl) (.slice ad o.data.length cd) (.slice aq o.queue.length cq)) rfl rfl (rd_litg (by rfl) (by simp)) ?c1 ?c2 ?c3 ?c4 ?_)
        case c1 => simp [Value.oneCell', Thing.cells]
        case c2 => unfold maxLen; omega
        case c3 => omega
        case c4 => simp; omega
        intro v9 w9 ho9 hg9 hat9
        have HBB := HB2.out.trans ((below_a2 w2 (.cells #[.int .i64 o.gen, .int .i64 o.kind, .int .i64 o.box, .int .i64 o.res, .int .i64 o.til, .int .i64 o.pages, .int .i64 o.wait, .int .i64 o.got, .int .i64 o.ran, .bool o.mark, .slice al o.links.length cl, .slice ad o.data.length cd, .slice aq o.queue.length cq] 71) (.cells #[.int .i64 o.gen, .int .i64 o.kind, .int .i64 o.box, .int .i64 o.res, .int .i64 o.til, .int .i64 o.pages, .int .i64 o.wait, .int .i64 o.got, .int .i64 o.ran, .bool o.mark, .slice al o.links.length cl, .slice ad o.data.length cd, .slice aq o.queue.length cq] 71)).mono hz2w)
        have HO3 := HO2.out.below (below_a2 w2 (.cells #[.int .i64 o.gen, .int .i64 o.kind, .int .i64 o.box, .int .i64 o.res, .int .i64 o.til, .int .i64 o.pages, .int .i64 o.wait, .int .i64 o.got, .int .i64 o.ran, .bool o.mark, .slice al o.links.length cl, .slice ad o.data.length cd, .slice aq o.queue.length cq] 71) (.cells #[.int .i64 o.gen, .int .i64 o.kind, .int .i64 o.box, .int .i64 o.res, .int .i64 o.til, .int .i64 o.pages, .int .i64 o.wait, .int .i64 o.got, .int .i64 o.ran, .bool o.mark, .slice al o.links.length cl, .slice ad o.data.length cd, .slice aq o.queue.length cq] 71))
        have HE3 := KThing.kept (P := fun _ => False) HE.out (KeptP.of_below (below_a2 w2 (.cells #[.int .i64 o.gen, .int .i64 o.kind, .int .i64 o.box, .int .i64 o.res, .int .i64 o.til, .int .i64 o.pages, .int .i64 o.wait, .int .i64 o.got, .int .i64 o.ran, .bool o.mark, .slice al o.links.length cl, .slice ad o.data.length cd, .slice aq o.queue.length cq] 71) (.cells #[.int .i64 o.gen, .int .i64 o.kind, .int .i64 o.box, .int .i64 o.res, .int .i64 o.til, .int .i64 o.pages, .int .i64 o.wait, .int .i64 o.got, .int .i64 o.ran, .bool o.mark, .slice al o.links.length cl, .slice ad o.data.length cd, .slice aq o.queue.length cq] 71))) (fun _ _ e => e)
        have HP := hideP (RowsOwn.append HO3 HE3 ho9 hg9 hat9 (by simp) HL.out HN.out (fun q hq e => by have h1 := HN.out q hq; have h2 := HVB.out q e; omega))
        have HB9 := hideP (HBB.grown hg9 HBB.size (fun q e => (HO3.row.lt q e).1))
        have hl9 : (xs ++ [o]).length ≤ 10 := by rw [List.length_append, List.length_singleton]; omega
        clear ho9 hg9 hat9 HBB HO3 HE3 HO2 HE HN HL HVB HB2 hrd hxs
        go_wp2
        go_roundg (gk - 1)
        case measure => omega
        case rel => exact ⟨k + 1, a + n, xs ++ [o], _, by omega, by omega, by go_num, by go_num, han, hl9, HRD, HP, HB9⟩
    · have HRD : Hid (rdThings (bl s) 10 = some (xs, a)) := hideP (by rw [← show k = 10 by omega]; exact hrd.out)
      have HSH := hideP (good_short (rd_good HRD.out).2.2)
      obtain ⟨pv, cv, rfl, _⟩ := owns_slice HO.out.row
      have hl6 : xs.length ≤ 1048576 := by omega
      have d1 : ¬ ((k : Int) < 10) := by omega
      clear hrd
      go_wp2_with fail
      refine (specShowArena_any xs pv cv hl6 HSH.out _ (ThingsOwn.rd HO.out)).mono ?_
      rintro e w3 ⟨rfl, hb3⟩
      have HO3 := hideP (HO.out.below hb3)
      have HB3 := hideP (HB.out.trans (hb3.mono HB.out.size))
      clear hb3 HO HB
      go_wp2
      · rename_i hq
        have hne : ¬ showArena xs = bl s := fun e => by
          rw [e] at hq
          unfold bl at hq
          rw [← ByteArray.toList_eq] at hq
          simp at hq
        have HN : Hid (readArena (bl s) = none) := hideP (by
          rw [readArena_at HRD.out]
          cases hok : arenaOk xs
          · simp
          · have : ¬ a = (bl s).length := fun e => hne ((arena_read HRD.out).2 ⟨e, hok⟩)
            simp [this])
        clear hq hne
        go_ret2
        exact ArenaRet.no HN.out (owns_lit HB3.out.size (by first | rfl | simp) (by decide) rfl rfl) (HB3.out.alloc HB3.out.size _)
      · rename_i hq
        have he : showArena xs = bl s := by
          unfold bl
          rw [← ByteArray.toList_eq]
          simpa using hq
        have HN : Hid (readArena (bl s) = some xs) := hideP (readArena_yes HRD.out ((arena_read HRD.out).1 he).1 ((arena_read HRD.out).1 he).2)
        clear hq he
        go_ret2
        exact ArenaRet.yes HN.out HO3.out HB3.out

end Go.Proofs.Ytnchmenpgmlpdaa

namespace Go.Proofs.Ytnchmenpgmlpdaa
open Go.RowKit

set_option maxRecDepth 100000 in
set_option maxHeartbeats 8000000 in
theorem heldObjS_any (v : Value) (base : Nat) (l : List Thing) (rs : List (List Value)) (hl : l.length ≤ 1048576) (hs : Short 1048576 l) (hq : qAt 1 l l.length ≤ 900000000000) (w : World) (h : RowsOwn KMix w base v l.length (mixList 1 l l.length) rs []) :
    Calls Try.prog 56 #[v, .int .i64 1] w fun e w' => e = .returned (.int .i64 (qAt 1 l l.length)) ∧ w = w' := by
  obtain ⟨pv, cv, rfl, _⟩ := owns_slice h.row
  have HW := hideP h
  have HS := hideP hs
  clear h hs
  go_enter Try.func56, Try.ntmps56
  go_wp2
  go_loopg [1, 5] (l.length + 1) (fun gk r i wr => ∃ (k : Nat) (q : Int), l.length < gk + k ∧ k ≤ l.length ∧ i = .int .i64 (k : Int) ∧ r = .int .i64 q ∧ 1 ≤ q ∧ q ≤ 900000000000 ∧ Hid (qAt 1 l k = q) ∧ Hid (w = wr))
  case atStart => exact ⟨0, 1, by omega, by omega, rfl, rfl, by omega, by omega, hideP (by unfold qAt; simp), hideP rfl⟩
  case round =>
    obtain ⟨k, q, hgk, hk, rfl, rfl, hq0, hq1, hqk, hww⟩ := hrel
    have hww' := hww.out
    subst hww'
    clear hww
    by_cases hlt : k < l.length
    · obtain ⟨x, hx⟩ := some_at (l := l) (k := k) hlt
      have hm := mixList_get (q := 1) (k := l.length) hx
      rw [if_pos hlt, hqk.out] at hm
      obtain ⟨vs, hv, ho⟩ := HW.out.at hm
      obtain ⟨g, cap, e, hg, hgw, hc, hf⟩ := HW.out.cell (by decide) hm hv
      have hoL : markOwnL w base x q vs := ho
      obtain ⟨vl, vd, vq, rfl, hob⟩ := hoL
      obtain ⟨pl, ql, rfl, _⟩ := owns_slice hob.l
      obtain ⟨pd, qd, rfl, _⟩ := owns_slice hob.d
      obtain ⟨pq, qq, rfl, _⟩ := owns_slice hob.q
      cases e
      obtain ⟨⟨s1, s2, s3⟩, _⟩ := HS.out x (List.mem_of_getElem? hx)
      have hz : ∀ (j : Nat) (u : Value), (markThing q (.slice pl x.links.length ql) (.slice pd x.data.length qd) (.slice pq x.queue.length qq))[j]? = some u → w.cell? ⟨g, k * 13 + j, none⟩ = some u := hc
      have g0 : w.cell? ⟨g, k * 13, none⟩ = some (.int .i64 q) := hz 0 _ rfl
      have g1 : w.cell? ⟨g, k * 13 + 1, none⟩ = some (.int .i64 (q + 1)) := hz 1 _ rfl
      have g2 : w.cell? ⟨g, k * 13 + 2, none⟩ = some (.int .i64 (q + 1 + 1)) := hz 2 _ rfl
      have g3 : w.cell? ⟨g, k * 13 + 3, none⟩ = some (.int .i64 (q + 1 + 1 + 1)) := hz 3 _ rfl
      have g4 : w.cell? ⟨g, k * 13 + 4, none⟩ = some (.int .i64 (q + 1 + 1 + 1 + 1)) := hz 4 _ rfl
      have g5 : w.cell? ⟨g, k * 13 + 5, none⟩ = some (.int .i64 (q + 1 + 1 + 1 + 1 + 1)) := hz 5 _ rfl
      have g6 : w.cell? ⟨g, k * 13 + 6, none⟩ = some (.int .i64 (q + 1 + 1 + 1 + 1 + 1 + 1)) := hz 6 _ rfl
      have g7 : w.cell? ⟨g, k * 13 + 7, none⟩ = some (.int .i64 (q + 1 + 1 + 1 + 1 + 1 + 1 + 1)) := hz 7 _ rfl
      have g8 : w.cell? ⟨g, k * 13 + 8, none⟩ = some (.int .i64 (q + 1 + 1 + 1 + 1 + 1 + 1 + 1 + 1)) := hz 8 _ rfl
      have g9 : w.cell? ⟨g, k * 13 + 9, none⟩ = some (.bool ((q + 1 + 1 + 1 + 1 + 1 + 1 + 1 + 1 + 1) % 3 == 0)) := hz 9 _ rfl
      have g10 : w.cell? ⟨g, k * 13 + 10, none⟩ = some (.slice pl x.links.length ql) := hz 10 _ rfl
      have g11 : w.cell? ⟨g, k * 13 + 11, none⟩ = some (.slice pd x.data.length qd) := hz 11 _ rfl
      have g12 : w.cell? ⟨g, k * 13 + 12, none⟩ = some (.slice pq x.queue.length qq) := hz 12 _ rfl
      have k0 : (0 : Int) ≤ (k : Int) := by omega
      have k1 : (k : Int) < (l.length : Int) := by omega
      have O1 := hideP (rd_of_owns hob.l)
      have O2 := hideP (rd_of_owns hob.d)
      have O3 := hideP (rd_of_owns hob.q)
      have HQ : Hid (qAt 1 l (k + 1) = q + 1 + 1 + 1 + 1 + 1 + 1 + 1 + 1 + 1 + 1 + (x.links.length : Int) + (x.data.length : Int) + ((x.queue.length * 2 : Nat) : Int)) := hideP (by rw [qAt_succ hx, hqk.out]; unfold thingMarks; omega)
      have hqn := (qAt_le 1 l (k + 1)).2
      have hqm : q + 1 + 1 + 1 + 1 + 1 + 1 + 1 + 1 + 1 + 1 + (x.links.length : Int) + (x.data.length : Int) + ((x.queue.length * 2 : Nat) : Int) ≤ 900000000000 := by rw [HQ.out] at hqn; omega
      clear hx hm hv hob hc hf hz ho hqk hqn
      go_wp2_with fail
      refine (heldIntS_any _ _ _ (q + 1 + 1 + 1 + 1 + 1 + 1 + 1 + 1 + 1 + 1) (by omega) s1 _ O1.out).mono ?_
      rintro e w2 ⟨rfl, rfl⟩
      have d1 : ¬ (q + 1 + 1 + 1 + 1 + 1 + 1 + 1 + 1 + 1 + 1 + (x.links.length : Int) < 0) := by omega
      go_wp2_with fail
      refine (heldIntS_any _ _ _ (q + 1 + 1 + 1 + 1 + 1 + 1 + 1 + 1 + 1 + 1 + (x.links.length : Int)) (by omega) s2 _ O2.out).mono ?_
      rintro e w2 ⟨rfl, rfl⟩
      have d2 : ¬ (q + 1 + 1 + 1 + 1 + 1 + 1 + 1 + 1 + 1 + 1 + (x.links.length : Int) + (x.data.length : Int) < 0) := by omega
      go_wp2_with fail
      refine (heldMsgS_any _ _ _ (q + 1 + 1 + 1 + 1 + 1 + 1 + 1 + 1 + 1 + 1 + (x.links.length : Int) + (x.data.length : Int)) (by omega) s3 _ O3.out).mono ?_
      rintro e w2 ⟨rfl, rfl⟩
      have d3 : ¬ (q + 1 + 1 + 1 + 1 + 1 + 1 + 1 + 1 + 1 + 1 + (x.links.length : Int) + (x.data.length : Int) + ((x.queue.length * 2 : Nat) : Int) < 0) := by omega
      go_wp2
      go_roundg (gk - 1)
      case measure => omega
      case rel => exact ⟨k + 1, _, by omega, by omega, by go_num, rfl, by omega, hqm, HQ, hideP rfl⟩
    · have hkl : k = l.length := by omega
      have HQ : Hid (qAt 1 l l.length = q) := hideP (hkl ▸ hqk.out)
      have d1 : ¬ ((k : Int) < (l.length : Int)) := by omega
      clear hkl hqk
      go_wp2
      go_ret
      exact ⟨ret_int HQ.out.symm, rfl⟩

end Go.Proofs.Ytnchmenpgmlpdaa

namespace Go.Proofs.Ytnchmenpgmlpdaa
open Go.RowKit

set_option maxRecDepth 100000 in
set_option maxHeartbeats 8000000 in
theorem eqObjS_any (l : List Thing) (p p' : Option Addr) (c c' : Nat) (hl : l.length ≤ 1048576) (hs : Short 1048576 l) (w : World) (h : ThingsRd w p l) (h' : ThingsRd w p' l) :
    Calls Try.prog 52 #[.slice p l.length c, .slice p' l.length c'] w fun e w' => e = .returned (.bool true) ∧ Below w.heap.size w w' := by
  have HR := hideP h
  have HR' := hideP h'
  have HS := hideP hs
  clear h h' hs
  go_enter Try.func52, Try.ntmps52
  go_wp2
  go_loopg [5] (l.length + 1) (fun gk i wr => ∃ (k : Nat), l.length < gk + k ∧ k ≤ l.length ∧ i = .int .i64 (k : Int) ∧ Hid (Below w.heap.size w wr))
  case atStart => exact ⟨0, by omega, by omega, rfl, hideP (Below.refl _ _)⟩
  case round =>
    obtain ⟨k, hgk, hk, rfl, HB⟩ := hrel
    by_cases hlt : k < l.length
    · obtain ⟨x, hx⟩ := some_at (l := l) (k := k) hlt
      obtain ⟨b, o, vl, vd, vq, rfl, hbw, hth, hz9⟩ := HR.out.below HB.out k x hx
      obtain ⟨b', o', ul, ud, uq, rfl, hbw', hth', hz9'⟩ := HR'.out.below HB.out k x hx
      obtain ⟨⟨s1, s2, s3⟩, _⟩ := HS.out x (List.mem_of_getElem? hx)
      have g0 : World.cell? _ ⟨b, o + k * 13, none⟩ = some (.int .i64 x.gen) := hz9 0 _ rfl
      have g1 : World.cell? _ ⟨b, o + k * 13 + 1, none⟩ = some (.int .i64 x.kind) := hz9 1 _ rfl
      have g2 : World.cell? _ ⟨b, o + k * 13 + 2, none⟩ = some (.int .i64 x.box) := hz9 2 _ rfl
      have g3 : World.cell? _ ⟨b, o + k * 13 + 3, none⟩ = some (.int .i64 x.res) := hz9 3 _ rfl
      have g4 : World.cell? _ ⟨b, o + k * 13 + 4, none⟩ = some (.int .i64 x.til) := hz9 4 _ rfl
      have g5 : World.cell? _ ⟨b, o + k * 13 + 5, none⟩ = some (.int .i64 x.pages) := hz9 5 _ rfl
      have g6 : World.cell? _ ⟨b, o + k * 13 + 6, none⟩ = some (.int .i64 x.wait) := hz9 6 _ rfl
      have g7 : World.cell? _ ⟨b, o + k * 13 + 7, none⟩ = some (.int .i64 x.got) := hz9 7 _ rfl
      have g8 : World.cell? _ ⟨b, o + k * 13 + 8, none⟩ = some (.int .i64 x.ran) := hz9 8 _ rfl
      have g9 : World.cell? _ ⟨b, o + k * 13 + 9, none⟩ = some (.bool x.mark) := hz9 9 _ rfl
      have g10 : World.cell? _ ⟨b, o + k * 13 + 10, none⟩ = some (vl) := hz9 10 _ rfl
      have g11 : World.cell? _ ⟨b, o + k * 13 + 11, none⟩ = some (vd) := hz9 11 _ rfl
      have g12 : World.cell? _ ⟨b, o + k * 13 + 12, none⟩ = some (vq) := hz9 12 _ rfl
      have j0 : World.cell? _ ⟨b', o' + k * 13, none⟩ = some (.int .i64 x.gen) := hz9' 0 _ rfl
      have j1 : World.cell? _ ⟨b', o' + k * 13 + 1, none⟩ = some (.int .i64 x.kind) := hz9' 1 _ rfl
      have j2 : World.cell? _ ⟨b', o' + k * 13 + 2, none⟩ = some (.int .i64 x.box) := hz9' 2 _ rfl
      have j3 : World.cell? _ ⟨b', o' + k * 13 + 3, none⟩ = some (.int .i64 x.res) := hz9' 3 _ rfl
      have j4 : World.cell? _ ⟨b', o' + k * 13 + 4, none⟩ = some (.int .i64 x.til) := hz9' 4 _ rfl
      have j5 : World.cell? _ ⟨b', o' + k * 13 + 5, none⟩ = some (.int .i64 x.pages) := hz9' 5 _ rfl
      have j6 : World.cell? _ ⟨b', o' + k * 13 + 6, none⟩ = some (.int .i64 x.wait) := hz9' 6 _ rfl
      have j7 : World.cell? _ ⟨b', o' + k * 13 + 7, none⟩ = some (.int .i64 x.got) := hz9' 7 _ rfl
      have j8 : World.cell? _ ⟨b', o' + k * 13 + 8, none⟩ = some (.int .i64 x.ran) := hz9' 8 _ rfl
      have j9 : World.cell? _ ⟨b', o' + k * 13 + 9, none⟩ = some (.bool x.mark) := hz9' 9 _ rfl
      have j10 : World.cell? _ ⟨b', o' + k * 13 + 10, none⟩ = some (ul) := hz9' 10 _ rfl
      have j11 : World.cell? _ ⟨b', o' + k * 13 + 11, none⟩ = some (ud) := hz9' 11 _ rfl
      have j12 : World.cell? _ ⟨b', o' + k * 13 + 12, none⟩ = some (uq) := hz9' 12 _ rfl
      have k0 : (0 : Int) ≤ (k : Int) := by omega
      have k1 : (k : Int) < (l.length : Int) := by omega
      clear hx hz9 hz9'
      go_wp2
      have q_g0 := fun d os => cell_regrown g0 d os
      have q_g1 := fun d os => cell_regrown g1 d os
      have q_g2 := fun d os => cell_regrown g2 d os
      have q_g3 := fun d os => cell_regrown g3 d os
      have q_g4 := fun d os => cell_regrown g4 d os
      have q_g5 := fun d os => cell_regrown g5 d os
      have q_g6 := fun d os => cell_regrown g6 d os
      have q_g7 := fun d os => cell_regrown g7 d os
      have q_g8 := fun d os => cell_regrown g8 d os
      have q_g9 := fun d os => cell_regrown g9 d os
      have q_g10 := fun d os => cell_regrown g10 d os
      have q_g11 := fun d os => cell_regrown g11 d os
      have q_g12 := fun d os => cell_regrown g12 d os
      have q_j0 := fun d os => cell_regrown j0 d os
      have q_j1 := fun d os => cell_regrown j1 d os
      have q_j2 := fun d os => cell_regrown j2 d os
      have q_j3 := fun d os => cell_regrown j3 d os
      have q_j4 := fun d os => cell_regrown j4 d os
      have q_j5 := fun d os => cell_regrown j5 d os
      have q_j6 := fun d os => cell_regrown j6 d os
      have q_j7 := fun d os => cell_regrown j7 d os
      have q_j8 := fun d os => cell_regrown j8 d os
      have q_j9 := fun d os => cell_regrown j9 d os
      have q_j10 := fun d os => cell_regrown j10 d os
      have q_j11 := fun d os => cell_regrown j11 d os
      have q_j12 := fun d os => cell_regrown j12 d os
      refine wp_region_quiet_below (by kernel_rfl) (by kernel_rfl) ?_
      repeat (first | go_big_quiet_step ((first | (go_at_call 43; exact Calls.regrown_of (eqObj_any x vl vd vq ul ud uq s1 s2 s3 _ (hth.below (below_regrown _ _ _)) (hth'.below (below_regrown _ _ _)))))) | quiet_step ((first | (go_at_call 43; exact Calls.regrown_of (eqObj_any x vl vd vq ul ud uq s1 s2 s3 _ (hth.below (below_regrown _ _ _)) (hth'.below (below_regrown _ _ _)))))))
      refine wpQuiet_nil ?_
      intro _ hw'
      obtain ⟨⟨dq, osq⟩, hw''⟩ := hw'
      subst hw''
      clear q_g0 q_g1 q_g2 q_g3 q_g4 q_g5 q_g6 q_g7 q_g8 q_g9 q_g10 q_g11 q_g12 q_j0 q_j1 q_j2 q_j3 q_j4 q_j5 q_j6 q_j7 q_j8 q_j9 q_j10 q_j11 q_j12
      obtain ⟨wq, hwq⟩ : ∃ wq, wq = Go.Sort.grow (redrawn wr dq) osq := ⟨_, rfl⟩
      have hbwq : Below wr.heap.size wr wq := hwq ▸ below_regrown _ dq osq
      rw [← hwq]
      clear hwq
      have HB := hideP (HB.out.trans (hbwq.mono HB.out.size))
      clear hbwq hth hth' g0 g1 g2 g3 g4 g5 g6 g7 g8 g9 g10 g11 g12 j0 j1 j2 j3 j4 j5 j6 j7 j8 j9 j10 j11 j12
      go_wp2
      go_roundg (gk - 1)
      case measure => omega
      case rel => exact ⟨k + 1, by omega, by omega, by go_num, HB⟩
    · have d1 : ¬ ((k : Int) < (l.length : Int)) := by omega
      go_wp2
      go_ret
      exact ⟨rfl, HB.out⟩

end Go.Proofs.Ytnchmenpgmlpdaa

namespace Go.Proofs.Ytnchmenpgmlpdaa
open Go.RowKit

set_option maxRecDepth 100000 in
set_option maxHeartbeats 8000000 in
theorem lawFnExactReadArena_walk (a0 : ByteArray) (_w0 : a0.size ≤ maxLen) (w : World) :
    Calls Try.prog 11 #[.string a0] w fun e w' => e = .returned (.bool true) ∧ Below w.heap.size w w' := by
  have HM := hideP _w0
  have hm := _w0
  unfold maxLen at hm
  have hl : (arenaRes (bl a0)).length ≤ 1048576 := by have := arenaRes_len (bl a0); omega
  have HS := hideP (good_short (arenaRes_ok (bl a0)))
  have HQ := hideP (good_marks (arenaRes_ok (bl a0)) (arenaRes_len (bl a0)))
  by_cases hs : a0.size ≤ 1048576
  · go_enter Try.func11, Try.ntmps11
    go_wp2_with fail
    refine (specReadArena_any a0 HM.out _).mono ?_
    rintro e w1 ⟨v0, rs0, rfl, ho0, hb1⟩
    obtain ⟨p0, c0, rfl, _⟩ := owns_slice ho0.row
    have HB := hideP hb1
    have R0 := hideP (ThingsOwn.rd ho0)
    have hw1 := hb1.size
    clear ho0 hb1
    go_wp2_with fail
    refine (implReadArena_any a0 HM.out _).mono ?_
    rintro e w2 ⟨v1, rs1, rfl, ho1, hb2⟩
    obtain ⟨p1, c1, rfl, _⟩ := owns_slice ho1.row
    have HB := hideP (HB.out.trans (hb2.mono HB.out.size))
    have HB1 := hideP hb2
    have HO := hideP ho1
    clear ho1 hb2
    go_wp2_with fail
    refine (eqObjS_any (arenaRes (bl a0)) p1 p0 c1 c0 hl HS.out _ (ThingsOwn.rd HO.out) (R0.out.below HB1.out)).mono ?_
    rintro e w3 ⟨rfl, hb3⟩
    have HB := hideP (HB.out.trans (hb3.mono HB.out.size))
    have HB1 := hideP (HB1.out.trans (hb3.mono HB1.out.size))
    have HO := hideP (HO.out.below hb3)
    clear hb3
    go_wp2_with fail
    refine (markObjS_any _ w1.heap.size (arenaRes (bl a0)) rs1 hl HS.out HQ.out _ HB1.out.size HO.out).mono ?_
    rintro e w4 ⟨rfl, hm4, hb4⟩
    have HB := hideP (HB.out.trans (hb4.mono hw1))
    have HB1 := hideP (HB1.out.trans hb4)
    have HM4 := hideP hm4
    obtain ⟨q, hq⟩ : ∃ q, qAt 1 (arenaRes (bl a0)) (arenaRes (bl a0)).length = q := ⟨_, rfl⟩
    have hq1 := (qAt_le 1 (arenaRes (bl a0)) (arenaRes (bl a0)).length).1
    rw [hq] at hq1 ⊢
    have HQQ := hideP hq
    have dq : ¬ (q < 0) := by omega
    clear hm4 hb4 HO hq
    go_wp2_with fail
    refine (heldObjS_any _ w1.heap.size (arenaRes (bl a0)) rs1 hl HS.out HQ.out _ HM4.out).mono ?_
    rintro e w5 ⟨rfl, rfl⟩
    rw [HQQ.out]
    go_wp2_with fail
    refine (implReadArena_any a0 HM.out _).mono ?_
    rintro e w6 ⟨v6, rs6, rfl, ho6, hb6⟩
    obtain ⟨p6, c6, rfl, _⟩ := owns_slice ho6.row
    have HB := hideP (HB.out.trans (hb6.mono HB.out.size))
    have HB1 := hideP (HB1.out.trans (hb6.mono HB1.out.size))
    have HM4 := hideP (HM4.out.below hb6)
    have HO := hideP ho6
    clear ho6 hb6
    go_wp2_with fail
    refine (eqObjS_any (arenaRes (bl a0)) p6 p0 c6 c0 hl HS.out _ (ThingsOwn.rd HO.out) (R0.out.below HB1.out)).mono ?_
    rintro e w7 ⟨rfl, hb7⟩
    have HB := hideP (HB.out.trans (hb7.mono HB.out.size))
    have HM4 := hideP (HM4.out.below hb7)
    clear hb7 HO
    go_wp2_with fail
    refine (heldObjS_any _ w1.heap.size (arenaRes (bl a0)) rs1 hl HS.out HQ.out _ HM4.out).mono ?_
    rintro e w8 ⟨rfl, rfl⟩
    rw [HQQ.out]
    go_wp2
    go_ret
    exact ⟨rfl, HB.out⟩
  · go_enter Try.func11, Try.ntmps11
    go_wp2
    go_ret
    exact ⟨rfl, Below.refl _ _⟩

end Go.Proofs.Ytnchmenpgmlpdaa

namespace Go.Proofs.Ytnchmenpgmlpdaa
open Go.ChangeShapes Go.WideShapes Go.ChangeAt Go.RowKit Go.Deep

theorem q1FnExactReadArena (os : Os) : (World.plainHolding Try.checked.prog os ⟨#[], #[.string ⟨#[]⟩], []⟩).variablesB Try.checked.prog = true := by kernel_rfl
theorem q2FnExactReadArena (os : Os) : ((World.plainHolding Try.checked.prog os ⟨#[], #[.string ⟨#[]⟩], []⟩).heap.toList.drop Try.checked.prog.globals.size).take ((begin Try.checked.prog (fun _ _ => 0) default).world.heap.size - Try.checked.prog.globals.size) =
      (begin Try.checked.prog (fun _ _ => 0) default).world.heap.toList.drop Try.checked.prog.globals.size := by kernel_rfl
theorem q3FnExactReadArena (os : Os) : Input.okWideB Try.checked.prog (World.plainHolding Try.checked.prog os ⟨#[], #[.string ⟨#[]⟩], []⟩) 11 ⟨#[], #[.string ⟨#[]⟩], []⟩ = true := by kernel_rfl
theorem q4FnExactReadArena (os : Os) (H : Type) (enc : TypeId × Value → H) : Rows.fnExactReadArenaSpec.preB enc Try.checked.prog Try.f11 Rows.fnExactReadArenaRow.domain false (World.plainHolding Try.checked.prog os ⟨#[], #[.string ⟨#[]⟩], []⟩).memory #[.string ⟨#[]⟩] 8 = true := by kernel_rfl
theorem q5FnExactReadArena (os : Os) (H : Type) (enc : TypeId × Value → H) : Rows.fnExactReadArenaSpec.sizedB enc Try.checked.prog Try.f11 false (World.plainHolding Try.checked.prog os ⟨#[], #[.string ⟨#[]⟩], []⟩).memory #[.string ⟨#[]⟩] 8 = true := by kernel_rfl
theorem witFnExactReadArena (os : Os) (H : Type) (enc : TypeId × Value → H) : ∃ (w : World) (tape : Tape) (i : Input), w.os = os ∧ (w.forCall tape i).Shaped Try.checked.prog ∧ i.vars = [] ∧ Input.okWide Try.checked.prog (w.forCall tape i) .any w.heap.size 11 i ∧
      Rows.fnExactReadArenaSpec.pre6 enc Try.checked.prog Try.f11 Rows.fnExactReadArenaRow.domain false (w.forCall tape i).memory i.args ∧ ({} : Assume).holds Try.checked.prog (lone (Frame.enter Try.checked.prog 11 i.args .normal) [] (w.forCall tape i)) :=
    (ChangeSpec.witness6 (enc := enc) (C := Try.checked) false ⟨#[], #[.string ⟨#[]⟩], []⟩ 8 (q1FnExactReadArena os) (q2FnExactReadArena os) (q3FnExactReadArena os) (q4FnExactReadArena os H enc) (q5FnExactReadArena os H enc))
theorem r1FnExactReadArena : Try.checked.prog.inits.idxOf? 11 = none := by kernel_rfl
theorem r2FnExactReadArena : ownKnob Try.checked.prog.godebug = none := Try.own0
theorem r3FnExactReadArena : Try.checked.prog.funcs[11]? = some Try.f11 := Try.func11
theorem rdFnExactReadArena0 : Try.prog.readableRec 9 = true ∧ 9 < Try.prog.types.size := ⟨by kernel_rfl, of_decide_eq_true (by kernel_rfl)⟩
theorem rsFnExactReadArena : (Try.f11).resultTypes = #[4] := by kernel_rfl

set_option maxRecDepth 100000 in
theorem contractFnExactReadArena (H : Type) (enc : TypeId × Value → H) (W : World) (base : Nat) (args : Array Value) (ds gs : List (DataW H)) (before : List MemPlace)
    (hval : ∀ (j : Nat) t v, (Try.f11).params[j]? = some t → args[j]? = some v → Value.okWide Try.prog W .any base t v)
    (hW : DataW.Whole enc Try.prog (Try.f11).params.toList Rows.fnExactReadArenaSpec.vars false W args.toList ds gs before) :
    Calls Try.prog 11 args W fun e W' => ∃ v, e = .returned v ∧ Rows.fnExactReadArenaSpec.post enc Try.prog Try.f11 false true false false W args v W' := by
  have hW' := hW
  obtain ⟨p, q, hA0, hV, rfl, hfz, hnd⟩ := hW
  have hA : DataW.TrodAll enc Try.prog W 0 (fun _ => true) true (Try.f11).params.toList args.toList ds p := hA0
  rw [Try.params11] at hA hval
  obtain ⟨v0, vs0, d0, ds0, p0, q0, hargs, rfl, rfl, h0, r0⟩ := trodAll_cons hA
  obtain ⟨rfl, rfl, rfl⟩ := trodAll_nil r0
  obtain rfl : args = #[v0] := by cases args; simp_all
  obtain ⟨a0, rfl, rfl, rfl, w0⟩ := Go.ChangeMaps.open_string Try.underlying9 (hval 0 9 v0 rfl rfl) h0
  refine (lawFnExactReadArena_walk a0 w0 W).mono fun e W' ⟨he, hb⟩ => ?_
  subst he
  refine ⟨_, rfl, law_post Try.laidOut0 ?_ rsFnExactReadArena Try.underlying4 rfl hW' rfl hb⟩
  rw [Try.params11]
  intro t ht
  simp only [List.mem_cons, List.not_mem_nil, or_false] at ht
  subst ht
  exact rdFnExactReadArena0

theorem liftedFnExactReadArena (os : Os) (started : os.Started) (H : Type) (enc : TypeId × Value → H) :
    ReturnsInHanded {} Try.checked os 11 .any (Rows.fnExactReadArenaSpec.pre6 enc Try.checked.prog Try.f11 Rows.fnExactReadArenaRow.domain false) (Rows.fnExactReadArenaSpec.post enc Try.checked.prog Try.f11 false true false false) := by
  refine returnsInHanded_of_change (C := Try.checked) r2FnExactReadArena started r1FnExactReadArena r3FnExactReadArena (witFnExactReadArena os H enc) ?_
  rw [Try.progEq0]
  intro W base args ds gs before hval hW hcnd _
  exact contractFnExactReadArena H enc W base args ds gs before @hval hW

theorem lifted2FnExactReadArena (os : Os) (started : os.Started) (H : Type) (enc : TypeId × Value → H) :
    ReturnsInHanded {} Try.checked os 11 .any (Rows.fnExactReadArenaSpec.pre6 enc Try.prog Try.f11 Rows.fnExactReadArenaRow.domain false) (Rows.fnExactReadArenaSpec.post enc Try.prog Try.f11 false true false false) := by
  have h := liftedFnExactReadArena os started H enc
  rw [Try.progEq0] at h
  exact h

theorem FnExactReadArena_holds : Rows.FnExactReadArenaSaid :=
  OpenClaim.holds_of_wide 11 Try.f11 rfl rfl rfl rfl rfl rfl rfl ⟨rfl, rfl, rfl, rfl, rfl⟩ rfl rfl rfl rfl rfl (by kernel_rfl) Try.func11 (by kernel_rfl)
    (of_decide_eq_true (by kernel_rfl)) (by unfold Func.isWrapper; first | (rw [if_pos (by decide +kernel)]; kernel_rfl) | (rw [if_neg (by decide +kernel)]; exact ⟨rfl, rfl⟩))
    (fun os started H enc _ => lifted2FnExactReadArena os started H enc)
#print axioms FnExactReadArena_holds

end Go.Proofs.Ytnchmenpgmlpdaa
