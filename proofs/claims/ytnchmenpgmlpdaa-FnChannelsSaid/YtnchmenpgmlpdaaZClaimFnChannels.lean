/- FnChannels: for every code what may flow by way of others may flow straight where nothing is owned, and a closure has all that is reached and nothing else. No condition. -/
import Derived.Test.YtnchmenpgmlpdaaRows
import Derived.Test.YtnchmenpgmlpdaaBase
import Derived.ProofKit
import Derived.OpenShut
import Derived.Carry
import Derived.Deep.Slices
import Derived.Deep.Fields
import Derived.Test.YtnchmenpgmlpdaaClosePure
import Derived.Deep.LoopGhost
import Derived.Test.YtnchmenpgmlpdaaLeaksS
import Derived.Test.YtnchmenpgmlpdaaChansI
import Derived.Test.YtnchmenpgmlpdaaSmall
import Derived.Test.YtnchmenpgmlpdaaChanDraw
import Derived.Test.YtnchmenpgmlpdaaChanLaws
import Derived.Test.YtnchmenpgmlpdaaReachImpl
import Derived.Test.YtnchmenpgmlpdaaBootOkS
import Derived.Deep.DeepCutAuto
import Derived.StillTailTactics
import Derived.Lib.QuietBelow
namespace Go.Proofs.Ytnchmenpgmlpdaa
open Go.ChangeShapes Go.WideShapes Go.ChangeAt Go.RowKit Go.Deep

theorem Try.own0 : ownKnob Try.prog.godebug = none := by kernel_rfl
theorem Try.progEq0 : Try.checked.prog = Try.prog := rfl
theorem Try.laidOut0 : laidOutB Try.prog = true := by kernel_rfl

section
variable {H : Type} {enc : TypeId × Value → H} {P : Program}

theorem trodAll_below (hl : laidOutB P = true) {W W' : World} (hb : Below W.heap.size W W') : ∀ {ts : List TypeId} {vs : List Value} {ds : List (DataW H)} {ps : List MemPlace},
    (∀ t ∈ ts, P.readableRec t = true ∧ t < P.types.size) → (∀ x ∈ ps, x.block < W.heap.size) → DataW.TrodAll enc P W 0 (fun _ => true) true ts vs ds ps →
    DataW.TrodAll enc P W' 0 (fun b => decide (b < W.heap.size)) true ts vs ds ps
  | [], [], [], _, _, _, h => h
  | t :: ts, v :: vs, d :: ds, ps, hr, hlt, h => by
    obtain ⟨p, q, h1, h2, rfl⟩ := h
    exact ⟨p, q, Below.trod hl (hr t (by simp)).1 (hr t (by simp)).2 h1 hb (fun x hx => hlt x (by simp [hx])),
      trodAll_below hl hb (fun t ht => hr t (by simp [ht])) (fun x hx => hlt x (by simp [hx])) h2, rfl⟩

/-- The post of a law: true, and the arguments as they were. -/
theorem law_post {f : Func} {s : ChangeSpec} {W W' : World} {args : Array Value} {ds gs : List (DataW H)} {before : List MemPlace} (hl : laidOutB P = true)
    (hr : ∀ t ∈ f.params.toList, P.readableRec t = true ∧ t < P.types.size) {bt : TypeId} (hres : f.resultTypes = #[bt]) (hbt : P.underlying bt = some .bool)
    (hvars : s.vars = []) (hW : DataW.Whole enc P f.params.toList s.vars false W args.toList ds gs before) (hspec : s.fn H (ds ++ []) = { results := [.lit (.bool true)], args := ds })
    (hb : Below W.heap.size W W') : s.post enc P f false true false false W args (.bool true) W' := by
  have hlt : ∀ x ∈ before, x.block < W.heap.size := fun x hx => by simpa using hW.lt x hx
  have hW' := hW
  obtain ⟨p, q, hA, hV, rfl, hfz, hnd⟩ := hW
  rw [hvars] at hV
  obtain ⟨rfl, rfl⟩ := trodVars_none hV
  refine ⟨ds, [], p ++ [], [], p ++ [], [], hW', ?_, ?_, ?_, hb.frame _, fun h => by cases h⟩
  · rw [hspec, hres]
    exact trodAll_mk1 (shut_bool hbt _)
  · rw [hspec]
    simpa using trodAll_below hl hb hr (fun x hx => hlt x (by simp [hx])) hA
  · rw [hspec, hvars]
    rfl

/-- A slice's argument opened row by row: `dec` reads one row. -/
theorem open_rows {α : Type} [Inhabited α] (cells : World → List Value → α → Prop) {W : World} {t e : TypeId} {v : Value} {d : DataW H} {p : List MemPlace} (s : Nat) (ht : P.underlying t = some (.slice e)) (hC : P.cellsOf e = s) (hs : 0 < s)
    (hdec : ∀ n cs y, DataW.trod enc P W 0 (fun _ => true) true n e cs = some y → ∃ x, cells W cs x) {r : Reach} {b0 : Nat}
    (hval : Value.okWide P W r b0 t v) (h : DataW.Trod enc P W 0 (fun _ => true) true t v d p) :
    ∃ (a : Option Addr) (n cap : Nat) (rows : List (List Value)) (l : List α), v = .slice a n cap ∧ n = l.length ∧ n ≤ maxLen ∧ Rd W a rows.flatten ∧ (∀ c ∈ rows, c.length = s) ∧ rows.length = n ∧ (∀ (i : Nat) (c : List Value) (x : α), rows[i]? = some c → l[i]? = some x → cells W c x) := by
  obtain ⟨a0, n0, cap0, rfl⟩ := okWide_slice ht hval
  obtain ⟨fuel, hf⟩ := h
  rcases open_slice ht hf with ⟨hcs, _⟩ | ⟨a, len, cap, m, n, D, Pl, hcs, _, hlc, hcm, hm, _, hi⟩
  · simp [Value.cells] at hcs
    obtain ⟨rfl, rfl, rfl⟩ := hcs
    exact ⟨none, 0, 0, [], [], rfl, rfl, Nat.zero_le _, .inl rfl, by simp, rfl, by simp⟩
  · simp [Value.cells] at hcs
    obtain ⟨rfl, rfl, rfl⟩ := hcs
    simp only [if_true] at hm
    subst hm
    have hg : ∀ i, i < n0 → ∃ cs : List Value, cs.length = s ∧ (∀ j, j < s → W.cell? ((a.add (i * s)).add j) = cs[j]?) ∧ ∃ x, cells W cs x := by
      intro i hi'
      obtain ⟨cs, h1, h2⟩ := hi i (by omega)
      rw [hC] at h1
      obtain ⟨_, h3, h4⟩ := World.cells?_some h1
      exact ⟨cs, h3, h4, hdec _ _ _ h2⟩
    obtain ⟨R, hR⟩ := choose_lt (α := List Value) (p := fun i cs => cs.length = s ∧ (∀ j, j < s → W.cell? ((a.add (i * s)).add j) = cs[j]?) ∧ ∃ x, cells W cs x) hg
    have hX : ∀ i, i < n0 → ∃ x, cells W (R i) x := fun i hi' => (hR i hi').2.2
    obtain ⟨X, hX⟩ := choose_lt (α := α) hX
    refine ⟨some a, n0, _, (List.range n0).map R, (List.range n0).map X, rfl, by simp, by omega, ?_, ?_, by simp, ?_⟩
    · by_cases h0 : n0 = 0
      · subst h0; exact .inl rfl
      · obtain ⟨l0, c0, _⟩ := hR 0 (by omega)
        have hc0 := c0 0 hs
        obtain ⟨b, o, spot⟩ := a
        have hget : (R 0)[0]? = some ((R 0)[0]'(by omega)) := List.getElem?_eq_getElem (by omega)
        rw [hget] at hc0
        have hsp : spot = none := by simpa [Addr.add] using World.cell?_spot hc0
        subst hsp
        have hbl : b < W.heap.size := by
          have := World.block_lt_of_cell? W _ hc0
          simpa [Addr.add] using this
        refine .inr ⟨b, o, rfl, hbl, fun i u hu => ?_⟩
        have hlen : ∀ (k : Nat), k ≤ n0 → (((List.range k).map R).flatten).length = k * s := by
          intro k hk
          induction k with
          | zero => simp
          | succ k ih => rw [List.range_succ, List.map_append, List.flatten_append, List.length_append, ih (by omega)]; simp [(hR k (by omega)).1, Nat.add_mul]
        have hiu : i < n0 * s := by have := (List.getElem?_eq_some_iff.1 hu).1; rw [hlen n0 (Nat.le_refl _)] at this; exact this
        have hq : i / s < n0 := Nat.div_lt_of_lt_mul (by rw [Nat.mul_comm]; exact hiu)
        have hmod : i % s < s := Nat.mod_lt _ hs
        have hdm : i = i / s * s + i % s := by rw [Nat.mul_comm]; exact (Nat.div_add_mod i s).symm
        have hget2 := flat_get (α := Nat) (fun k => if k < n0 then R k else List.replicate s undef) s (fun k => by by_cases hk : k < n0 <;> simp [hk]; exact (hR k hk).1) (List.range n0) (i / s) (i / s) (by simp [hq]) (i % s) hmod
        have hfm : (List.range n0).flatMap (fun k => if k < n0 then R k else List.replicate s undef) = ((List.range n0).map R).flatten := by
          rw [List.flatMap_def]
          congr 1
          apply List.map_congr_left
          intro k hk
          simp at hk
          simp [hk]
        rw [hfm, ← hdm, if_pos hq, hu] at hget2
        have := (hR (i / s) hq).2.1 (i % s) hmod
        rw [← hget2] at this
        rw [← this]
        have e2 : o + i = o + i / s * s + i % s := by omega
        rw [e2]
        simp only [Addr.add]
        by_cases z1 : i / s * s = 0 <;> by_cases z2 : i % s = 0 <;> simp [z1, z2]
    · intro c hc
      simp at hc
      obtain ⟨k, hk, rfl⟩ := hc
      exact (hR k hk).1
    · intro i c x hc hx
      simp [List.getElem?_eq_some_iff] at hc hx
      obtain ⟨k1, ⟨hk1, rfl⟩, rfl⟩ := hc
      obtain ⟨k2, ⟨hk2, rfl⟩, rfl⟩ := hx
      exact hX _ hk1

/-- A field that is an int, a bool: its cell. -/
theorem fld_int {W : World} {n : Nat} {t : TypeId} {cs : List Value} {xs : List (DataW H × List MemPlace)} {j : Nat} {c : Value} (h : DataW.trod enc P W 0 (fun _ => true) true n t cs = xs[j]?) (hj : j < xs.length) (ht : P.underlying t = some (.int .i64)) (hc : cs = [c]) :
    ∃ v, c = .int .i64 v := by
  rw [List.getElem?_eq_getElem hj] at h
  obtain ⟨v, hv, _⟩ := DataW.trod_int ht h
  exact ⟨v, by rw [hc] at hv; simpa using hv⟩
theorem fld_bool {W : World} {n : Nat} {t : TypeId} {cs : List Value} {xs : List (DataW H × List MemPlace)} {j : Nat} {c : Value} (h : DataW.trod enc P W 0 (fun _ => true) true n t cs = xs[j]?) (hj : j < xs.length) (ht : P.underlying t = some .bool) (hc : cs = [c]) :
    ∃ v, c = .bool v := by
  rw [List.getElem?_eq_getElem hj] at h
  obtain ⟨v, hv, _⟩ := DataW.trod_bool ht h
  exact ⟨v, by rw [hc] at hv; simpa using hv⟩

/-- The same where a row's cells tell the element (`enc`). -/
theorem open_flat {α : Type} [Inhabited α] (cod : α → List Value) {W : World} {t e : TypeId} {v : Value} {d : DataW H} {p : List MemPlace} (s : Nat) (ht : P.underlying t = some (.slice e)) (hC : P.cellsOf e = s) (hs : 0 < s)
    (hdec : ∀ n cs y, DataW.trod enc P W 0 (fun _ => true) true n e cs = some y → ∃ x, cs = cod x) {r : Reach} {b0 : Nat}
    (hval : Value.okWide P W r b0 t v) (h : DataW.Trod enc P W 0 (fun _ => true) true t v d p) :
    ∃ (a : Option Addr) (n cap : Nat) (l : List α), v = .slice a n cap ∧ n = l.length ∧ n ≤ maxLen ∧ Rd W a (l.flatMap cod) := by
  obtain ⟨a, n, cap, rows, l, h1, h2, h3, h4, _, h6, h7⟩ := open_rows (fun _ cs x => cs = cod x) s ht hC hs hdec hval h
  refine ⟨a, n, cap, l, h1, h2, h3, ?_⟩
  have : rows = l.map cod := by
    apply List.ext_getElem?
    intro i
    by_cases hi : i < n
    · have e1 := List.getElem?_eq_getElem (l := rows) (i := i) (by omega)
      have e2 := List.getElem?_eq_getElem (l := l) (i := i) (by omega)
      rw [List.getElem?_map, e2, e1, h7 i _ _ e1 e2]
      rfl
    · rw [List.getElem?_eq_none (by omega), List.getElem?_eq_none (by simp; omega)]
  rw [this] at h4
  rw [List.flatMap_def]
  exact h4

end
end Go.Proofs.Ytnchmenpgmlpdaa

namespace Go.Proofs.Ytnchmenpgmlpdaa
open Go.RowKit

set_option maxRecDepth 100000 in
set_option maxHeartbeats 2000000 in
theorem implClosure_any (n : Int) (a : Option Addr) (m cap : Nat) (l : List Chan) (hm : m = l.length) (hl : m ≤ 1048576) (w : World) (h : Rd w a (l.flatMap Chan.enc)) :
    Calls Try.prog 27 #[.int .i64 n, .slice a m cap] w (OwnRet w 52 2 (closure n l).length ((closure n l).flatMap Chan.enc)) := by
  have Hm := Lib.hid hm
  clear hm
  obtain ⟨i0, hi, hz0, hz1, hz2⟩ := info_parts Try.infoChan
  by_cases hin : inB n 1 20 = true
  · have hb8 := inB_true.1 hin
    obtain ⟨N, rfl⟩ := Int.eq_ofNat_of_zero_le (show 0 ≤ n by omega)
    have hc : closure (N : Int) l = closeRows (N : Int) l N N := by rw [closure, if_pos hin]; rfl
    rw [hc]
    clear hc
    go_enter Try.func27, Try.ntmps27
    go_wp2_with (go_at_call 85; refine (within_any _ _ _ _).mono ?_; rintro e w' ⟨rfl, rfl⟩)
    go_loopg [5, 14] (N + 1) (fun gk v i wr => ∃ k : Nat, N - k < gk ∧ k ≤ N ∧ i = .int .i64 k ∧ CloseAcc w (closeRows (N : Int) l k N) v wr)
    case atStart => exact ⟨0, by omega, by omega, rfl, Acc.nil (Below.refl _ _) rfl⟩
    case round =>
      rename_i v0 _ _
      obtain ⟨k, hgk, hk, rfl, hacc⟩ := hrel
      obtain ⟨gko, rfl⟩ : ∃ g, g = gk := ⟨_, rfl⟩
      by_cases hlt : k < N
      · go_wp2
        go_loopg [5, 18] (N + 1) (fun gk1 v i wr => ∃ j : Nat, N - j < gk1 ∧ j ≤ N ∧ i = .int .i64 j ∧ CloseAcc w (closeRows (N : Int) l k N ++ closeRow (N : Int) l k j) v wr)
        case atStart => exact ⟨0, by omega, by omega, rfl, by simpa [closeRow] using hacc⟩
        case round =>
          obtain ⟨j, hgj, hj, rfl, hacc1⟩ := hrel
          by_cases hlj : j < N
          · by_cases hkj : k = j
            · have hacc2 := hideP (hacc1.next j (pick_no (.inl hkj)))
              have d1 : ((k : Int) != (j : Int)) = false := by simp [hkj]
              clear hkj
              go_wp2
              go_roundg (gk - 1)
              case measure => omega
              case rel => exact ⟨j + 1, by omega, by omega, by go_num, hacc2.out⟩
            · have d1 : ((k : Int) != (j : Int)) = true := by simp; omega
              cases hr : canReach (N : Int) l (k : Int) (j : Int)
              · have hacc2 := hideP (hacc1.next j (pick_no (.inr hr)))
                have Hr := Lib.hid hr
                clear hr hkj
                go_wp2_with fail
                refine (implCanReach_any _ _ _ _ l _ _ Hm.out hl _ (h.below (Acc.wb hacc1))).mono ?_
                rintro e w2 ⟨rfl, hb2⟩
                rw [Hr.out]
                go_wp2
                go_roundg (gk - 1)
                case measure => omega
                case rel => exact ⟨j + 1, by omega, by omega, by go_num, Acc.below hacc2.out hb2⟩
              · have hp := hideP (pick_yes hkj hr)
                have Hr := Lib.hid hr
                have hlen := closeRow_len (N : Int) l k j
                have hlen2 := closeRows_len (N : Int) l N k
                have hle : k * N ≤ 20 * 20 := Nat.mul_le_mul (by omega) (by omega)
                clear hr hkj
                go_wp2_with fail
                refine (implCanReach_any _ _ _ _ l _ _ Hm.out hl _ (h.below (Acc.wb hacc1))).mono ?_
                rintro e w2 ⟨rfl, hb2⟩
                rw [Hr.out]
                have hacc2 := hideP (Acc.below hacc1 hb2)
                go_wp2_with (at_builtin; refine wpList_append_acc rfl _ _ 24 rfl 52 i0 (.agg #[.int .i64 0, .int .i64 0]) 2 16 Try.underlying24 hi hz0 hz1 hz2 rfl (by decide) _ _ _ rfl (Acc.alloc hacc2.out _) _ 1 1 (Chan.enc ⟨(k : Int), (j : Int)⟩) rfl rfl (rd_lit rfl) ?c1 ?c2 ?c3 ?_)
                case c1 => simp [Value.oneCell', Chan.enc]
                case c2 => unfold maxLen; simp; omega
                case c3 => simp; omega
                intro v' w3 h3 _
                have hacc3 := hideP (CloseAcc.pick h3 hp.out)
                clear h3
                go_wp2
                go_roundg (gk - 1)
                case measure => omega
                case rel => exact ⟨j + 1, by omega, by omega, by go_num, hacc3.out⟩
          · have hjN : j = N := by omega
            subst hjN
            rw [← closeRows_succ] at hacc1
            go_wp2
            go_roundg (gko - 1)
            case measure => omega
            case rel => exact ⟨k + 1, by omega, by omega, by go_num, hacc1⟩
      · have hkN : k = N := by omega
        subst hkN
        go_wp2
        go_ret
        exact Acc.ret hacc
  · have hin' : inB n 1 20 = false := by simpa using hin
    have hc : closure n l = [] := by rw [closure, if_neg hin]
    rw [hc]
    go_enter Try.func27, Try.ntmps27
    go_wp2_with (go_at_call 85; refine (within_any _ _ _ _).mono ?_; rintro e w' ⟨rfl, rfl⟩)
    go_ret
    exact ⟨_, rfl, owns_lit (Nat.le_refl _) rfl (by decide) rfl rfl, below_a1 _ _⟩
end Go.Proofs.Ytnchmenpgmlpdaa

namespace Go.Proofs.Ytnchmenpgmlpdaa
open Go.RowKit

set_option maxRecDepth 100000 in
set_option maxHeartbeats 8000000 in
theorem implLeaks_any (l : List Boot) (p : Option Addr) (c : Nat) (hl : l.length ≤ maxLen) (w : World) (h : BootsRd w p l) :
    Calls Try.prog 23 #[.slice p l.length c] w (OwnRet w 52 2 (leaks l).length ((leaks l).flatMap Chan.enc)) := by
  obtain ⟨i0, hi, hz0, hz1, hz2⟩ := info_parts Try.infoChan
  have HR := hideP h
  clear h
  have hb0 := below_a1 w (.cells #[] 52)
  have RB := hideP (HR.out.below hb0)
  go_enter Try.func23, Try.ntmps23
  go_wp2_with fail
  refine (implChannels_any true l p c hl _ RB.out).mono ?_
  rintro e w1 ⟨v1, rfl, ho1, hb1⟩
  obtain ⟨q1, k1, rfl, _⟩ := owns_slice ho1
  have HC : Hid (ChAcc w [] (.slice (some ⟨w.heap.size, 0, none⟩) 0 0) w1) := hideP (Acc.below (Acc.nil (Below.refl _ _) rfl) hb1)
  have H1 := hideP (rd_of_owns ho1)
  have hz1' : w.heap.size < w1.heap.size := by have := hb1.size; simp at this; omega
  have hcl1 : (channels true l).length ≤ 1048576 := by have := channels_len true l; omega
  clear ho1 hb1 hb0 RB
  go_wp2_with fail
  refine (implClosure_any (l.length : Int) q1 _ k1 (channels true l) rfl hcl1 _ H1.out).mono ?_
  rintro e w2 ⟨v2, rfl, ho2, hb2⟩
  obtain ⟨q2, k2, rfl, _⟩ := owns_slice ho2
  have HC := hideP (Acc.below HC.out hb2)
  obtain ⟨cl, hcl⟩ : ∃ cl, cl = closure (l.length : Int) (channels true l) := ⟨_, rfl⟩
  have HN : Hid (leaks l = cl.filter (leakB l)) := hideP (by rw [hcl]; rfl)
  have hcl2 : cl.length ≤ 400 := by rw [hcl]; exact closure_len _ _
  have HM : Hid (∀ x ∈ cl, ∃ i j : Nat, i < l.length ∧ j < l.length ∧ x = ⟨(i : Int), (j : Int)⟩) := hideP (fun x hx => by
    rw [hcl] at hx
    obtain ⟨i, j, h1, h2, h3, _⟩ := closure_mem hx
    exact ⟨i, j, by omega, by omega, h3⟩)
  rw [← hcl] at ho2 ⊢
  have H2 := hideP (rd_of_owns ho2)
  have HLT := hideP (Rd.ap ho2)
  have HAP : Hid (AP q2 (.slice (some ⟨w.heap.size, 0, none⟩) 0 0)) := hideP (fun b o s e z => by
    have h9 := (HLT.out b o s e).1
    have h8 : w.heap.size = b := by simpa [Value.ownBlock] using z
    omega)
  clear ho2 hb2 hcl H1 hcl1
  go_wp2
  go_loopg [3, 13] (cl.length + 1) (fun gk v i wr => ∃ (k : Nat) (xs : List Chan), cl.length < gk + k ∧ k ≤ cl.length ∧ i = .int .i64 (k : Int) ∧ Hid (xs = (cl.take k).filter (leakB l)) ∧ Hid (ChAcc w xs v wr) ∧ Hid (Rd wr q2 (cl.flatMap Chan.enc)) ∧ Hid (AP q2 v) ∧ w2.heap.size ≤ wr.heap.size)
  case atStart => exact ⟨0, [], by omega, by omega, rfl, hideP rfl, HC, H2, HAP, Nat.le_refl _⟩
  case round =>
    clear HC H2 HAP
    obtain ⟨k, xs, hgk, hk, rfl, hxs, hacc, H2, HAP, hwz⟩ := hrel
    by_cases hlt : k < cl.length
    · obtain ⟨x, hx⟩ := some_at (l := cl) (k := k) hlt
      obtain ⟨i, j, hi1, hj1, rfl⟩ := HM.out x (List.mem_of_getElem? hx)
      have hxl : xs.length ≤ 400 := by rw [hxs.out]; have := filter_len (leakB l) cl k; omega
      obtain ⟨qb, qo, rfl, hqb, u0, u1⟩ := H2.out.rowChan hx
      obtain ⟨X, hX⟩ := some_at (l := l) (k := i) hi1
      obtain ⟨Y, hY⟩ := some_at (l := l) (k := j) hj1
      have HLB := hideP (leakB_at hX hY)
      have HX := hideP hx
      obtain ⟨b, o, al, cl9, ao, co, rfl, hbw, r1, _, m1, _, g0, _, _, _, _⟩ := HR.out.below hacc.out.2 i X hX
      obtain ⟨b', o', bl, dl, bo, do9, e', _, s1, _, n1, _, j0, _, _, _, _⟩ := HR.out.below hacc.out.2 j Y hY
      cases e'
      clear hx hX hY
      have k0 : (0 : Int) ≤ (k : Int) := by omega
      have k1 : (k : Int) < (cl.length : Int) := by omega
      have i1 : (0 : Int) ≤ (i : Int) := by omega
      have i2 : (i : Int) < (l.length : Int) := by omega
      have i3 : (0 : Int) ≤ (j : Int) := by omega
      have i4 : (j : Int) < (l.length : Int) := by omega
      have RI := hideP r1
      have RJ := hideP s1
      have hbr : b < wr.heap.size := hbw
      clear r1 s1
      go_upto_region 5 with fail
      have hb9 := below_a1 wr (.cells #[.int .i64 (i : Int), .int .i64 (j : Int)] 52)
      have X0 := hideP (Blk.new wr #[.int .i64 (i : Int), .int .i64 (j : Int)] 52)
      have hacc := hideP (Acc.below hacc.out hb9)
      have H2 := hideP (H2.out.below hb9)
      have RI := hideP (RI.out.below hb9)
      have RJ := hideP (RJ.out.below hb9)
      have g0 := (hb9.cell (p := ⟨b, _, none⟩) hbw).trans g0
      have j0 := (hb9.cell (p := ⟨b, _, none⟩) hbw).trans j0
      have hwz9 : w2.heap.size ≤ (wr.alloc (.cells #[.int .i64 (i : Int), .int .i64 (j : Int)] 52)).heap.size := Nat.le_trans hwz hb9.size
      clear hb9 hwz u0 u1 hqb
      obtain ⟨W, hW⟩ : ∃ W, W = wr.alloc (.cells #[.int .i64 (i : Int), .int .i64 (j : Int)] 52) := ⟨_, rfl⟩
      rw [← hW] at X0 hacc H2 RI RJ g0 j0 hwz9 ⊢
      clear hW
      obtain ⟨XB, hXB⟩ : ∃ XB, XB = wr.heap.size := ⟨_, rfl⟩
      rw [← hXB] at X0 ⊢
      clear hXB
      have X0 : Hid (Blk W XB 52 [.int .i64 (i : Int), .int .i64 (j : Int)]) := X0
      have x0 : W.cell? ⟨XB, 0, none⟩ = some (.int .i64 (i : Int)) := (X0.out.cell 0).trans rfl
      have x1 : W.cell? ⟨XB, 1, none⟩ = some (.int .i64 (j : Int)) := (X0.out.cell 1).trans rfl
      have r1 := RI.out
      have s1 := RJ.out
      have q_x0 := fun d os => cell_regrown x0 d os
      have q_x1 := fun d os => cell_regrown x1 d os
      have q_g0 := fun d os => cell_regrown g0 d os
      have q_j0 := fun d os => cell_regrown j0 d os
      refine wp_region_quiet_below (by kernel_rfl) (by kernel_rfl) ?_
      repeat (first | go_big_quiet_step ((first | (go_at_call 72; exact Calls.regrown_of (implFlows_any X.lv Y.lv al cl9 bl dl m1 n1 _ (r1.below (below_regrown _ _ _)) (s1.below (below_regrown _ _ _)))))) | quiet_step ((first | (go_at_call 72; exact Calls.regrown_of (implFlows_any X.lv Y.lv al cl9 bl dl m1 n1 _ (r1.below (below_regrown _ _ _)) (s1.below (below_regrown _ _ _)))))))
      refine wpQuiet_nil ?_
      intro _ hw'
      obtain ⟨⟨dq, osq⟩, hw''⟩ := hw'
      subst hw''
      clear q_x0 q_x1 q_g0 q_j0
      obtain ⟨wq, hwq⟩ : ∃ wq, wq = Go.Sort.grow (redrawn W dq) osq := ⟨_, rfl⟩
      have hbwq : Below W.heap.size W wq := hwq ▸ below_regrown _ dq osq
      rw [← hwq]
      clear hwq
      have hacc := hideP (Acc.below hacc.out hbwq)
      have H2 := hideP (H2.out.below hbwq)
      have X0 := hideP (X0.out.below hbwq)
      have x0 : wq.cell? ⟨XB, 0, none⟩ = some (.int .i64 (i : Int)) := (X0.out.cell 0).trans rfl
      have x1 : wq.cell? ⟨XB, 1, none⟩ = some (.int .i64 (j : Int)) := (X0.out.cell 1).trans rfl
      have hwz' : w2.heap.size ≤ wq.heap.size := Nat.le_trans hwz9 hbwq.size
      clear hbwq r1 s1 g0 j0 RI RJ X0
      cases tf : flows X.lv Y.lv
      · have HP : Hid (xs ++ [⟨(i : Int), (j : Int)⟩] = (cl.take (k + 1)).filter (leakB l)) := hideP (by rw [hxs.out, filter_yes HX.out (by rw [HLB.out, tf]; rfl)])
        clear tf hxs HLB HX
        go_wp2_with (at_builtin; refine wpList_append_rdat _ rfl _ _ 24 rfl w.heap.size 52 i0 (.agg #[.int .i64 0, .int .i64 0]) 2 16 Try.underlying24 hi hz0 hz1 hz2 rfl (by decide) _ _ _ rfl (World.ownsRow.alloc hacc.out.1 _) _ _ _ (Chan.enc ⟨(i : Int), (j : Int)⟩) rfl ?c1 (rd_lit rfl) ?c2 ?c3 ?c4 ?c5 ?_)
        case c1 => simp [Chan.enc]
        case c2 => simp [Value.oneCell', Chan.enc]
        case c3 => unfold maxLen; omega
        case c4 => omega
        case c5 => have := hacc.out.2.size; simp; omega
        intro v9 w9 ho9 hg9 hat9
        have HA9 : Hid (ChAcc w (xs ++ [⟨(i : Int), (j : Int)⟩]) v9 w9) := hideP (ChAcc.snoc ⟨ho9, (hacc.out.2.alloc hacc.out.2.size _).grown hg9 (by have := hacc.out.2.size; simp; omega) (fun q hq => (hacc.out.1.lt q hq).1)⟩)
        have HAP9 := hideP (HAP.out.next hat9 (fun b o s e => by have := (HLT.out b o s e).2; simp; omega))
        have H29 := hideP (Rd.grownA (H2.out.below (below_a1 _ _)) hg9 HAP.out)
        have hz9 := hg9.size
        have hz9' : w2.heap.size ≤ w9.heap.size := by simp at hz9; omega
        clear ho9 hg9 hat9 hacc HAP H2 hz9
        go_wp2
        go_roundg (gk - 1)
        case measure => omega
        case rel => exact ⟨k + 1, xs ++ [⟨(i : Int), (j : Int)⟩], by omega, by omega, by go_num, HP, HA9, H29, HAP9, hz9'⟩
      · have HP : Hid (xs = (cl.take (k + 1)).filter (leakB l)) := hideP (by rw [hxs.out, filter_no HX.out (by rw [HLB.out, tf]; rfl)])
        clear tf hxs HLB HX
        go_wp2
        go_roundg (gk - 1)
        case measure => omega
        case rel => exact ⟨k + 1, xs, by omega, by omega, by go_num, HP, hacc, H2, HAP, hwz'⟩
    · have hkN : k = cl.length := by omega
      have HP : Hid (xs = leaks l) := hideP (by rw [hxs.out, hkN, List.take_length, HN.out])
      have d1 : ¬ ((k : Int) < (cl.length : Int)) := by omega
      clear hkN hxs
      go_wp2
      go_ret
      rw [← HP.out]
      exact Acc.ret hacc.out

end Go.Proofs.Ytnchmenpgmlpdaa

namespace Go.Proofs.Ytnchmenpgmlpdaa
open Go.RowKit

theorem big_any (a : Option Addr) (n cap : Nat) (w : World) (hn : n ≤ maxLen) : Calls Try.prog 24 #[.slice a n cap] w fun e w' => e = .returned (.bool (decide (1048576 < n))) ∧ w = w' := by
  unfold maxLen at hn
  go_enter Try.func24, Try.ntmps24
  go_wp2
  go_ret
  exact ⟨ret_bool (by simp; omega), rfl⟩
end Go.Proofs.Ytnchmenpgmlpdaa

namespace Go.Proofs.Ytnchmenpgmlpdaa
open Go.RowKit

def plainB (bs : List (Boot × Value × Value)) : List (Boot × Value × Value) := bs.map fun x => (⟨x.1.lv, [], x.1.a⟩, x.2.1, .slice none 0 0)
theorem plainB_snoc {bs : List (Boot × Value × Value)} {k : Nat} {x : Boot} {vl vo : Value} (h : bs[k]? = some (x, vl, vo)) : bxs (plainB (bs.take (k + 1))) = bxs (plainB (bs.take k)) ++ [vl, .slice none 0 0, .int .i64 x.a.p, .int .i64 x.a.r, .int .i64 x.a.c] := by
  rw [take_snoc h]
  simp [plainB, bxs, Boot.cells]
theorem BS.at {w : World} {B n c k : Nat} {p : Option Addr} {bs : List (Boot × Value × Value)} {x : Boot} {vl vo : Value} (h : BS w B (.slice p n c) bs) (hk : bs[k]? = some (x, vl, vo)) :
    ∃ b o al cl, p = some ⟨b, o, none⟩ ∧ b < w.heap.size ∧ vl = .slice al x.lv.length cl ∧ w.cell? ⟨b, o + k * 5, none⟩ = some (.slice al x.lv.length cl) ∧ w.cell? ⟨b, o + k * 5 + 2, none⟩ = some (.int .i64 x.a.p) ∧ w.cell? ⟨b, o + k * 5 + 3, none⟩ = some (.int .i64 x.a.r) ∧ w.cell? ⟨b, o + k * 5 + 4, none⟩ = some (.int .i64 x.a.c) := by
  have hr : Rd w p (bs.flatMap fun x => x.1.cells x.2.1 x.2.2) := by
    obtain ⟨a', c', e, _⟩ := owns_slice h.row
    cases e
    exact rd_of_owns h.row
  obtain ⟨b, o, rfl, hlt, hc⟩ := hr.row (s := 5) (fun _ => rfl) (by decide) hk
  have h1 : RowI w B vl x.lv := (h.el _ (List.mem_of_getElem? hk)).1
  obtain ⟨al, cl, rfl, _⟩ := owns_slice h1
  exact ⟨b, o, al, cl, rfl, hlt, rfl, hc 0 _ (by decide) rfl, hc 2 _ (by decide) rfl, hc 3 _ (by decide) rfl, hc 4 _ (by decide) rfl⟩
/-- The boots without what is owned. -/
theorem BS.plain {w : World} {B B' : Nat} {v v' : Value} {bs : List (Boot × Value × Value)} (h : BS w B v bs) (ho : w.ownsRow B' 45 5 v' bs.length (bxs (plainB bs))) (hb : B ≤ B') : BS w B v' (plainB bs) := by
  refine ⟨by rw [show (plainB bs).length = bs.length by simp [plainB]]; exact owns_mono ho hb, ?_⟩
  intro y hy
  obtain ⟨x, hx, rfl⟩ := List.mem_map.1 hy
  obtain ⟨h1, _, h3, _⟩ := h.el x hx
  exact ⟨h1, owns_nilB _ _ _ _, h3, by simp⟩
theorem BS.plainRd {w : World} {B B' c : Nat} {v : Value} {p : Option Addr} {bs : List (Boot × Value × Value)} (h : BS w B v bs) (ho : w.ownsRow B' 45 5 (.slice p bs.length c) bs.length (bxs (plainB bs))) (hb : B ≤ B') : ∃ L : List Boot, L.length = bs.length ∧ Plain L ∧ BootsRd w p L := by
  refine ⟨_, ?_, ?_, (h.plain ho hb).rd⟩
  · simp [plainB]
  · intro x hx
    simp [plainB] at hx
    obtain ⟨a, b, _, rfl⟩ := hx
    rfl
theorem canReach_C {n : Int} {a : Option Addr} {m cap : Nat} {l : List Chan} {fr tt : Int} {b : Bool} (hr : canReach n l fr tt = b) (hm : m = l.length) (hl : m ≤ 1048576) (w : World) (h : Rd w a (l.flatMap Chan.enc)) :
    Calls Try.prog 29 #[.int .i64 n, .slice a m cap, .int .i64 fr, .int .i64 tt] w fun e w' => e = .returned (.bool b) ∧ Below w.heap.size w w' := by
  have := implCanReach_any n a m cap l fr tt hm hl w h
  rwa [hr] at this
set_option maxRecDepth 100000 in
set_option maxHeartbeats 16000000 in
theorem lawFnChannels_walk (a : Option Addr) (n cap : Nat) (cl : List UInt8) (hn : n = cl.length) (hl : n ≤ maxLen) (w : World) (h : Rd w a (byteCells cl)) :
    Calls Try.prog 5 #[.slice a n cap] w fun e w' => e = .returned (.bool true) ∧ Below w.heap.size w w' := by
  have Hn := Lib.hid hn
  obtain ⟨j0, hj, hy0, hy1, hy2⟩ := info_parts Try.infoBoot
  clear hn
  by_cases hs : n ≤ 1048576
  · have d0 : decide (1048576 < n) = false := by simpa using hs
    have H0 := hideP h
    clear h
    go_enter Try.func5, Try.ntmps5
    go_wp2_with fail
    refine (big_any _ _ _ _ hl).mono ?_
    rintro e w' ⟨rfl, rfl⟩
    rw [d0]
    go_wp2_with fail
    refine (drawChannels_any _ _ _ cl Hn.out hs _ H0.out).mono ?_
    rintro e W1 ⟨v, bs, b1, rfl, hbs, hb4, hb0⟩
    obtain ⟨pv, cv, rfl, _⟩ := owns_slice hbs.row
    have HBS := hideP hbs
    have HB0 := hideP hb0
    clear hbs hb0
    go_wp2
    go_loopg [5, 6] (bs.length + 1) (fun gk sc iv wr => ∃ (k : Nat) (p : Option Addr) (c : Nat), bs.length < gk + k ∧ k ≤ bs.length ∧ iv = .int .i64 (k : Int) ∧ sc = .slice p k c ∧ Hid (wr.ownsRow W1.heap.size 45 5 (.slice p k c) k (bxs (plainB (bs.take k)))) ∧ Hid (Below W1.heap.size W1 wr))
    case atStart => exact ⟨0, some ⟨W1.heap.size, 0, none⟩, 0, by omega, by omega, rfl, rfl, hideP (owns_lit (Nat.le_refl _) rfl (by decide) rfl rfl), hideP (below_a1 _ _)⟩
    case round =>
      obtain ⟨k, p, c, hgk, hk, rfl, rfl, HO, HB⟩ := hrel
      by_cases hlt : k < bs.length
      · obtain ⟨⟨x, vl, vo⟩, hx⟩ := some_at (l := bs) hlt
        obtain ⟨b, o, al, cl9, rfl, hbw, rfl, g0, g2, g3, g4⟩ := HBS.out.at hx
        have HX := hideP (plainB_snoc hx)
        have HOd : Hid (wr.drew.ownsRow W1.heap.size 45 5 (.slice p k c) k (bxs (plainB (bs.take k)))) := hideP HO.out
        have HBd : Hid (Below W1.heap.size W1 wr.drew) := hideP HB.out.drew
        have k1 : (k : Int) < (bs.length : Int) := by omega
        clear hx HO HB
        go_wp2
        refine wp_region_held_drew (S := Below W1.heap.size W1) (by kernel_rfl) (HBd.out) (fun hHeld => ?_)
        refine takeD (i := 0) (oi := _) (v := ?_) (some 30) rfl rfl (by kernel_rfl) (by kernel_rfl) (by kernel_rfl) (fun _ _ _ h => h) (Or.inl ⟨by rfl, ?_⟩) (by assumption) ?_
        rotate_left
        · intro wS hSw; (try dsimp only at hSw); go_simp; (try rw [if_neg (by omega)]); try with_reducible rfl
        try simp only [Act.put, List.setIfInBounds_toArray, List.set_cons_zero, List.set_cons_succ]
        refine takeD (i := 1) (oi := _) (v := ?_) (some 31) rfl rfl (by kernel_rfl) (by kernel_rfl) (by kernel_rfl) (fun _ _ _ h => h) (Or.inl ⟨by rfl, ?_⟩) (by assumption) ?_
        rotate_left
        · intro wS hSw; (try dsimp only at hSw); go_simp; (try rw [if_neg (by omega)]); try with_reducible rfl
        try simp only [Act.put, List.setIfInBounds_toArray, List.set_cons_zero, List.set_cons_succ]
        refine takeD (i := 2) (oi := _) (v := ?_) (some 32) rfl rfl (by kernel_rfl) (by kernel_rfl) (by kernel_rfl) (fun _ _ _ h => h) (Or.inl ⟨by rfl, ?_⟩) (by assumption) ?_
        rotate_left
        · intro wS hSw; (try dsimp only at hSw); go_simp; (try rw [if_neg (by omega)]); try with_reducible rfl
        try simp only [Act.put, List.setIfInBounds_toArray, List.set_cons_zero, List.set_cons_succ]
        refine takeD (i := 3) (oi := _) (v := ?_) (some 33) rfl rfl (by kernel_rfl) (by kernel_rfl) (by kernel_rfl) (fun _ _ _ h => h) (Or.inl ⟨by rfl, ?_⟩) (by assumption) ?_
        rotate_left
        · intro wS hSw; (try dsimp only at hSw); go_simp; (try rw [if_neg (by omega)]); try with_reducible rfl
        try simp only [Act.put, List.setIfInBounds_toArray, List.set_cons_zero, List.set_cons_succ]
        refine takeD (i := 4) (oi := _) (v := ?_) (some 34) rfl rfl (by kernel_rfl) (by kernel_rfl) (by kernel_rfl) (fun _ _ _ h => h) (Or.inl ⟨by rfl, ?_⟩) (by assumption) ?_
        rotate_left
        · intro wS hSw; (try dsimp only at hSw); go_simp; (try rw [if_neg (by omega)]); try with_reducible rfl
        try simp only [Act.put, List.setIfInBounds_toArray, List.set_cons_zero, List.set_cons_succ]
        refine takeD (i := 5) (oi := _) (v := ?_) (some 35) rfl rfl (by kernel_rfl) (by kernel_rfl) (by kernel_rfl) (fun _ _ _ h => h) (Or.inl ⟨by rfl, ?_⟩) (by assumption) ?_
        rotate_left
        · intro wS hSw; have z0 := (hSw.cell (p := ⟨b, _, none⟩) hbw).trans g0; go_simp; (try rw [if_neg (by omega)]); try with_reducible rfl
        try simp only [Act.put, List.setIfInBounds_toArray, List.set_cons_zero, List.set_cons_succ]
        refine takeD (i := 6) (oi := _) (v := ?_) (some 36) rfl rfl (by kernel_rfl) (by kernel_rfl) (by kernel_rfl) (fun _ _ _ h => h) (Or.inl ⟨by rfl, ?_⟩) (by assumption) ?_
        rotate_left
        · intro wS hSw; (try dsimp only at hSw); go_simp; (try rw [if_neg (by omega)]); try with_reducible rfl
        try simp only [Act.put, List.setIfInBounds_toArray, List.set_cons_zero, List.set_cons_succ]
        refine takeD (i := 7) (oi := _) (v := ?_) (some 37) rfl rfl (by kernel_rfl) (by kernel_rfl) (by kernel_rfl) (fun _ _ _ h => h) (Or.inl ⟨by rfl, ?_⟩) (by assumption) ?_
        rotate_left
        · intro wS hSw; (try dsimp only at hSw); go_simp; (try rw [if_neg (by omega)]); try with_reducible rfl
        try simp only [Act.put, List.setIfInBounds_toArray, List.set_cons_zero, List.set_cons_succ]
        refine takeD (i := 8) (oi := _) (v := ?_) (some 38) rfl rfl (by kernel_rfl) (by kernel_rfl) (by kernel_rfl) (fun _ _ _ h => h) (Or.inl ⟨by rfl, ?_⟩) (by assumption) ?_
        rotate_left
        · intro wS hSw; (try dsimp only at hSw); go_simp; (try rw [if_neg (by omega)]); try with_reducible rfl
        try simp only [Act.put, List.setIfInBounds_toArray, List.set_cons_zero, List.set_cons_succ]
        refine takeD (i := 9) (oi := _) (v := ?_) (some 39) rfl rfl (by kernel_rfl) (by kernel_rfl) (by kernel_rfl) (fun _ _ _ h => h) (Or.inl ⟨by rfl, ?_⟩) (by assumption) ?_
        rotate_left
        · intro wS hSw; (try dsimp only at hSw); go_simp; (try rw [if_neg (by omega)]); try with_reducible rfl
        try simp only [Act.put, List.setIfInBounds_toArray, List.set_cons_zero, List.set_cons_succ]
        refine takeD (i := 10) (oi := _) (v := ?_) (some 40) rfl rfl (by kernel_rfl) (by kernel_rfl) (by kernel_rfl) (fun _ _ _ h => h) (Or.inl ⟨by rfl, ?_⟩) (by assumption) ?_
        rotate_left
        · intro wS hSw; have z2 := (hSw.cell (p := ⟨b, _, none⟩) hbw).trans g2; have z3 := (hSw.cell (p := ⟨b, _, none⟩) hbw).trans g3; have z4 := (hSw.cell (p := ⟨b, _, none⟩) hbw).trans g4; go_simp; (try rw [if_neg (by omega)]); try with_reducible rfl
        try simp only [Act.put, List.setIfInBounds_toArray, List.set_cons_zero, List.set_cons_succ]
        refine takeD (i := 11) (oi := _) (v := ?_) (some 41) rfl rfl (by kernel_rfl) (by kernel_rfl) (by kernel_rfl) (fun _ _ _ h => h) (Or.inl ⟨by rfl, ?_⟩) (by assumption) ?_
        rotate_left
        · intro wS hSw; (try dsimp only at hSw); go_simp; (try rw [if_neg (by omega)]); try with_reducible rfl
        try simp only [Act.put, List.setIfInBounds_toArray, List.set_cons_zero, List.set_cons_succ]
        refine wpAnyH_ready (rs := [12]) (by kernel_rfl) (by simp) ?_
        refine AllReadyH.cons (o := _) rfl (fun K hK => ?_) AllReadyH.nil
        go_simp
        refine hK.out _ _ (hHeld.alloc hHeld.size _) (fun hNext => ?_)
        clear hK K hHeld
        revert hNext
        intro hHeld
        try simp only [Act.put, List.setIfInBounds_toArray, List.set_cons_zero, List.set_cons_succ]
        refine appendD 13 (some 43) rfl rfl (by kernel_rfl) rfl _ _ 26 rfl W1.heap.size 45 j0 (.agg #[.slice none 0 0, .slice none 0 0, .int .i64 0, .int .i64 0, .int .i64 0]) 5 72 Try.underlying26 hj hy0 hy1 hy2 rfl (by decide) _ k _ rfl (World.ownsRow.alloc HOd.out _) _ 1 1 [.slice al x.lv.length cl9, .slice none 0 0, .int .i64 x.a.p, .int .i64 x.a.r, .int .i64 x.a.c] rfl rfl (by first | exact rd_litg (by rfl) rfl | exact rd_litd (by rfl) (by simp)) (by simp [Value.oneCell']) (by decide) (by unfold maxLen; omega) (by omega) (by have := HBd.out.size; simp at this ⊢; omega) ?_
        intro gg cc w9 ho9 hg9
        skip
        refine ⟨hHeld.grown hg9 hHeld.size (fun q hq => (HOd.out.lt q hq).1), ?_⟩
        have hHeld := hHeld.grown hg9 hHeld.size (fun q hq => (HOd.out.lt q hq).1)
        try simp only [Act.put, List.setIfInBounds_toArray, List.set_cons_zero, List.set_cons_succ]
        refine takeD (i := 14) (oi := _) (v := ?_) (some 5) rfl rfl (by kernel_rfl) (by kernel_rfl) (by kernel_rfl) (fun _ _ _ h => h) (Or.inl ⟨by rfl, ?_⟩) (by assumption) ?_
        rotate_left
        · intro wS hSw; (try dsimp only at hSw); go_simp; (try rw [if_neg (by omega)]); try with_reducible rfl
        try simp only [Act.put, List.setIfInBounds_toArray, List.set_cons_zero, List.set_cons_succ]
        refine wpAnyH_done (by kernel_rfl) ?_ _
        have HO9 : Hid (w9.ownsRow W1.heap.size 45 5 (.slice (some ⟨gg, 0, none⟩) (k + 1) cc) (k + 1) (bxs (plainB (bs.take (k + 1))))) := hideP (by rw [HX.out]; exact ho9)
        have HB9 := hideP hHeld
        clear hHeld ho9 hg9 g0 g2 g3 g4 HX HOd HBd
        go_wp2
        go_roundg (gk - 1)
        case measure => omega
        case rel => exact ⟨k + 1, _, _, by omega, by omega, by go_num, rfl, HO9, HB9⟩
      · obtain rfl : k = bs.length := by omega
        obtain ⟨L, hLl, hLp, hLr⟩ := (HBS.out.below HB.out).plainRd (by have := HO.out; rwa [List.take_length] at this) HB0.out.size
        have HP := hideP hLp
        have HRL := hideP hLr
        have HB := hideP (HB0.out.trans (HB.out.mono HB0.out.size))
        have hL4 : L.length ≤ 4 := by omega
        have k1 : ¬ ((bs.length : Int) < (bs.length : Int)) := by omega
        rw [← hLl] at k1 ⊢
        clear hLl hLp hLr HO HB0 HBS hgk hk hlt hb4
        go_wp2_with fail
        refine (implChannels_any true L p c (by unfold maxLen; omega) _ HRL.out).mono ?_
        rintro e w3 ⟨v3, rfl, ho3, hb3⟩
        obtain ⟨p3, c3, rfl, _⟩ := owns_slice ho3
        have HR3 := hideP (rd_of_owns ho3)
        have HRL := hideP (HRL.out.below (hb3.mono (Nat.le_refl _)))
        have HB := hideP (HB.out.trans (hb3.mono HB.out.size))
        have hc9 := channels_len true L
        clear ho3 hb3
        go_wp2_with fail
        refine (specBootOk_any L p c (by unfold maxLen; omega) _ HRL.out).mono ?_
        rintro e w4 ⟨rfl, hb4⟩
        have HR3 := hideP (HR3.out.below hb4)
        have HRL := hideP (HRL.out.below hb4)
        have HB := hideP (HB.out.trans (hb4.mono HB.out.size))
        clear hb4
        go_upto_if 47 with fail
        go_cut [0] (fun s wx => s = .slice a n cap ∧ Hid (Below w.heap.size w wx))
        case first =>
          cases tb : bootOk L
          · go_wp2
            go_meet
            exact ⟨rfl, HB⟩
          · have HLK := hideP (leaks_none tb HP.out)
            have HCP := hideP (closure_plain tb HP.out)
            have HCE := hideP (channels_plain HP.out)
            clear tb
            go_wp2_with fail
            refine (implLeaks_any L p c (by unfold maxLen; omega) _ HRL.out).mono ?_
            rintro e w5 ⟨v5, rfl, ho5, hb5⟩
            rw [HLK.out, List.length_nil] at ho5
            obtain ⟨p5, c5, rfl, _⟩ := owns_slice ho5
            have HR3 := hideP (HR3.out.below hb5)
            have HRL := hideP (HRL.out.below hb5)
            have HB := hideP (HB.out.trans (hb5.mono HB.out.size))
            clear ho5 hb5
            go_wp2_with fail
            refine (implClosure_any (L.length : Int) p3 _ c3 (channels true L) rfl (by omega) _ HR3.out).mono ?_
            rintro e w6 ⟨v6, rfl, ho6, hb6⟩
            rw [HCP.out] at ho6
            obtain ⟨p6, c6, rfl, _⟩ := owns_slice ho6
            have HRL := hideP (HRL.out.below hb6)
            have HB := hideP (HB.out.trans (hb6.mono HB.out.size))
            clear ho6 hb6
            go_wp2_with fail
            refine (implChannels_any false L p c (by unfold maxLen; omega) _ HRL.out).mono ?_
            rintro e w7 ⟨v7, rfl, ho7, hb7⟩
            rw [← HCE.out] at ho7
            obtain ⟨p7, c7, rfl, _⟩ := owns_slice ho7
            have HB := hideP (HB.out.trans (hb7.mono HB.out.size))
            clear ho7 hb7
            go_wp2
            go_meet
            exact ⟨rfl, HB⟩
        case rest =>
        clear HB HR3 HRL HP hc9
        obtain ⟨rfl, HB⟩ := hcut
        go_wp2_with fail
        refine (drawClosure_any _ _ _ cl Hn.out hs _ (H0.out.below HB.out)).mono ?_
        rintro e w5 ⟨v5, cs, i, rfl, hi21, hcs9, ho5, hb5⟩
        obtain ⟨p5, c5, rfl, _⟩ := owns_slice ho5
        have HRC := hideP (rd_of_owns ho5)
        have HB := hideP (HB.out.trans (hb5.mono HB.out.size))
        have hcs20 : cs.length ≤ 1048576 := by omega
        clear ho5 hb5
        go_wp2_with fail
        refine (implClosure_any i _ _ _ cs rfl hcs20 _ HRC.out).mono ?_
        rintro e w6 ⟨v6, rfl, ho6, hb6⟩
        have HRC := hideP (HRC.out.below hb6)
        have HB := hideP (HB.out.trans (hb6.mono HB.out.size))
        have hx4 := closure_len i cs
        obtain ⟨X, hX⟩ : ∃ X, closure i cs = X := ⟨_, rfl⟩
        have HAG : Hid (closure i X = X) := hideP (by rw [← hX]; exact closure_again (by omega))
        have HMEM : Hid (∀ c ∈ X, canReach i cs c.f c.t = true ∧ c.f ≠ c.t) := hideP (by
          intro c hc
          rw [← hX] at hc
          obtain ⟨i1, j1, _, _, rfl, hne, hr⟩ := closure_mem hc
          exact ⟨hr, fun e => hne (by dsimp only at e; omega)⟩)
        rw [hX] at ho6 hx4
        obtain ⟨p6, c6, rfl, _⟩ := owns_slice ho6
        have HRX := hideP (rd_of_owns ho6)
        have hx20 : X.length ≤ 1048576 := by omega
        clear ho6 hb6 hX hx4
        go_wp2
        go_loopg [11] (X.length + 1) (fun gk iv wr => ∃ (k : Nat), X.length < gk + k ∧ k ≤ X.length ∧ iv = .int .i64 (k : Int) ∧ Hid (Below w6.heap.size w6 wr))
        case atStart => exact ⟨0, by omega, by omega, rfl, hideP (Below.refl _ _)⟩
        case round =>
          obtain ⟨k, hgk, hk, rfl, HB2⟩ := hrel
          by_cases hlt : k < X.length
          · obtain ⟨x, hx⟩ := some_at (l := X) hlt
            obtain ⟨b, o, rfl, hbw, g0, g1⟩ := (HRX.out.below HB2.out).rowChan hx
            have HC := hideP (HMEM.out x (List.mem_of_getElem? hx)).1
            have hne : (x.f == x.t) = false := by simpa using (HMEM.out x (List.mem_of_getElem? hx)).2
            have HRCr := hideP (HRC.out.below HB2.out)
            have k1 : (k : Int) < (X.length : Int) := by omega
            clear hx
            go_wp2
            have q_g0 := fun d os => cell_regrown g0 d os
            have q_g1 := fun d os => cell_regrown g1 d os
            refine wp_region_quiet_below (by kernel_rfl) (by kernel_rfl) ?_
            repeat (first | go_big_quiet_step ((first | (go_at_call 29; exact Calls.regrown_of (canReach_C HC.out rfl hcs20 _ (HRCr.out.below (below_regrown _ _ _)))))) | quiet_step ((first | (go_at_call 29; exact Calls.regrown_of (canReach_C HC.out rfl hcs20 _ (HRCr.out.below (below_regrown _ _ _)))))))
            refine wpQuiet_nil ?_
            intro _ hw'
            obtain ⟨⟨dq, osq⟩, hw''⟩ := hw'
            subst hw''
            clear q_g0 q_g1
            obtain ⟨wq, hwq⟩ : ∃ wq, wq = Go.Sort.grow (redrawn wr dq) osq := ⟨_, rfl⟩
            have hbwq : Below wr.heap.size wr wq := hwq ▸ below_regrown _ dq osq
            rw [← hwq]
            clear hwq
            have HB2 := hideP (HB2.out.trans (hbwq.mono HB2.out.size))
            clear hbwq g0 g1
            go_wp2
            go_roundg (gk - 1)
            case measure => omega
            case rel => exact ⟨k + 1, by omega, by omega, by go_num, HB2⟩
          · have k1 : ¬ ((k : Int) < (X.length : Int)) := by omega
            clear hgk hk
            obtain ⟨wy, hwy⟩ : ∃ x, x = wr := ⟨_, rfl⟩
            rw [← hwy] at HB2 ⊢
            clear hwy
            go_wp2
            go_loopg [12] (cs.length + 1) (fun gk iv wr => ∃ (k : Nat), cs.length < gk + k ∧ k ≤ cs.length ∧ iv = .int .i64 (k : Int) ∧ Hid (Below w6.heap.size w6 wr))
            case atStart => exact ⟨0, by omega, by omega, rfl, HB2⟩
            case round =>
              clear HB2
              obtain ⟨k, hgk, hk, rfl, HB2⟩ := hrel
              by_cases hlt : k < cs.length
              · have k1 : (k : Int) < (cs.length : Int) := by omega
                by_cases hin : 1 ≤ i ∧ i ≤ 20
                · obtain ⟨i1, i20⟩ := hin
                  obtain ⟨x, hx⟩ := some_at (l := cs) hlt
                  obtain ⟨b, o, rfl, hbw, g0, g1⟩ := (HRC.out.below HB2.out).rowChan hx
                  have HXM := hideP (List.mem_of_getElem? hx)
                  obtain ⟨gko, rfl⟩ : ∃ g, g = gk := ⟨_, rfl⟩
                  clear hx
                  by_cases hr : 0 ≤ x.f ∧ 0 ≤ x.t ∧ x.f < i ∧ x.t < i
                  · obtain ⟨r1, r2, r3, r4⟩ := hr
                    have d1 : ¬ (x.f < 0) := by omega
                    have d2 : ¬ (x.t < 0) := by omega
                    have d3 : ¬ (x.f ≥ i) := by omega
                    have d4 : ¬ (x.t ≥ i) := by omega
                    have HT : Hid (inB x.t 0 (i - 1) = true) := hideP (inB_true.2 (by omega))
                    have HI : Hid (inB i 1 20 = true) := hideP (inB_true.2 (by omega))
                    obtain ⟨m, rfl⟩ : ∃ m : Nat, i = (m : Int) := ⟨i.toNat, by omega⟩
                    go_wp2
                    go_loopg [15] (m + 1) (fun gk iv wz => ∃ (k2 : Nat), m < gk + k2 ∧ k2 ≤ m ∧ iv = .int .i64 (k2 : Int) ∧ Hid (Below w6.heap.size w6 wz))
                    case atStart => exact ⟨0, by omega, by omega, rfl, HB2⟩
                    case round =>
                      clear HB2 g0 g1
                      obtain ⟨k2, hgk2, hk2, rfl, HB2⟩ := hrel
                      by_cases hlt2 : k2 < m
                      · have k3 : (k2 : Int) < (m : Int) := by omega
                        have HS : Hid (canReach (m : Int) cs (k2 : Int) (k2 : Int) = true) := hideP (reach_self HI.out (inB_true.2 (by omega)) (by omega))
                        cases hc : canReach (m : Int) cs (k2 : Int) x.f
                        · have HC := hideP hc
                          clear hc
                          go_wp2_with fail
                          refine (canReach_C HC.out rfl hcs20 _ (HRC.out.below HB2.out)).mono ?_
                          rintro e w7 ⟨rfl, hq⟩
                          have HB2 := hideP (HB2.out.trans (hq.mono HB2.out.size))
                          clear hq
                          go_wp2_with fail
                          refine (canReach_C HS.out rfl hcs20 _ (HRC.out.below HB2.out)).mono ?_
                          rintro e w8 ⟨rfl, hq⟩
                          have HB2 := hideP (HB2.out.trans (hq.mono HB2.out.size))
                          clear hq
                          go_wp2
                          go_roundg (gk - 1)
                          case measure => omega
                          case rel => exact ⟨k2 + 1, by omega, by omega, by go_num, HB2⟩
                        · have HC := hideP hc
                          have HC2 := hideP (reach_step hc HXM.out HT.out)
                          clear hc
                          go_wp2_with fail
                          refine (canReach_C HC.out rfl hcs20 _ (HRC.out.below HB2.out)).mono ?_
                          rintro e w7 ⟨rfl, hq⟩
                          have HB2 := hideP (HB2.out.trans (hq.mono HB2.out.size))
                          clear hq
                          go_wp2_with fail
                          refine (canReach_C HC2.out rfl hcs20 _ (HRC.out.below HB2.out)).mono ?_
                          rintro e w8 ⟨rfl, hq⟩
                          have HB2 := hideP (HB2.out.trans (hq.mono HB2.out.size))
                          clear hq
                          go_wp2_with fail
                          refine (canReach_C HS.out rfl hcs20 _ (HRC.out.below HB2.out)).mono ?_
                          rintro e w9 ⟨rfl, hq⟩
                          have HB2 := hideP (HB2.out.trans (hq.mono HB2.out.size))
                          clear hq
                          go_wp2
                          go_roundg (gk - 1)
                          case measure => omega
                          case rel => exact ⟨k2 + 1, by omega, by omega, by go_num, HB2⟩
                      · have k3 : ¬ ((k2 : Int) < (m : Int)) := by omega
                        go_wp2
                        go_roundg (gko - 1)
                        case measure => omega
                        case rel => exact ⟨k + 1, by omega, by omega, by go_num, HB2⟩
                  · have hr4 : x.f < 0 ∨ (¬ x.f < 0 ∧ x.t < 0) ∨ (¬ x.f < 0 ∧ ¬ x.t < 0 ∧ x.f ≥ i) ∨ (¬ x.f < 0 ∧ ¬ x.t < 0 ∧ ¬ x.f ≥ i ∧ x.t ≥ i) := by omega
                    clear hr
                    rcases hr4 with d1 | ⟨d1, d2⟩ | ⟨d1, d2, d3⟩ | ⟨d1, d2, d3, d4⟩
                    all_goals
                      go_wp2
                      go_roundg (gko - 1)
                      case measure => omega
                      case rel => exact ⟨k + 1, by omega, by omega, by go_num, HB2⟩
                · have hi2 : ¬ (i ≥ 1) ∨ (i ≥ 1 ∧ ¬ (i ≤ 20)) := by omega
                  clear hin
                  rcases hi2 with d1 | ⟨d1, d2⟩
                  all_goals
                    have HBE := hideP (HB.out.trans (HB2.out.mono HB.out.size))
                    go_wp2_with fail
                    refine (implClosure_any i _ _ _ X rfl hx20 _ (HRX.out.below HB2.out)).mono ?_
                    rintro e w9 ⟨v9, rfl, ho9, hb9⟩
                    rw [HAG.out] at ho9
                    obtain ⟨p9, c9, rfl, _⟩ := owns_slice ho9
                    have HBE := hideP (HBE.out.trans (hb9.mono HBE.out.size))
                    clear ho9 hb9
                    go_wp2
                    go_ret
                    exact ⟨rfl, HBE.out⟩
              · have k1 : ¬ ((k : Int) < (cs.length : Int)) := by omega
                have HBE := hideP (HB.out.trans (HB2.out.mono HB.out.size))
                go_wp2_with fail
                refine (implClosure_any i _ _ _ X rfl hx20 _ (HRX.out.below HB2.out)).mono ?_
                rintro e w9 ⟨v9, rfl, ho9, hb9⟩
                rw [HAG.out] at ho9
                obtain ⟨p9, c9, rfl, _⟩ := owns_slice ho9
                have HBE := hideP (HBE.out.trans (hb9.mono HBE.out.size))
                clear ho9 hb9
                go_wp2
                go_ret
                exact ⟨rfl, HBE.out⟩
  · have d0 : decide (1048576 < n) = true := by simpa using hs
    go_enter Try.func5, Try.ntmps5
    go_wp2_with fail
    refine (big_any _ _ _ _ hl).mono ?_
    rintro e w' ⟨rfl, rfl⟩
    rw [d0]
    go_wp2
    go_ret
    exact ⟨rfl, Below.refl _ _⟩

end Go.Proofs.Ytnchmenpgmlpdaa

namespace Go.Proofs.Ytnchmenpgmlpdaa
open Go.ChangeShapes Go.WideShapes Go.ChangeAt Go.RowKit Go.Deep

theorem bytes_flat : ∀ l : List UInt8, l.flatMap (fun b : UInt8 => [Value.int .u8 (b.toNat : Int)]) = byteCells l
  | [] => rfl
  | x :: l => by rw [List.flatMap_cons, bytes_flat l]; rfl
/-- A code's bytes. -/
theorem decByte {H : Type} {enc : TypeId × Value → H} {W : World} (n : Nat) (cs : List Value) (y : DataW H × List MemPlace) (h : DataW.trod enc Try.prog W 0 (fun _ => true) true n 5 cs = some y) : ∃ x : UInt8, cs = [Value.int .u8 (x.toNat : Int)] := by
  obtain ⟨v, hv, _, hw⟩ := DataW.trod_int Try.underlying5 h
  simp [Lit.wf, IntKind.min, IntKind.max, IntKind.signed, IntKind.bits] at hw
  refine ⟨UInt8.ofNat v.toNat, ?_⟩
  rw [hv]
  have : ((UInt8.ofNat v.toNat).toNat : Int) = v := by
    rw [UInt8.toNat_ofNat', Nat.mod_eq_of_lt (by omega)]
    omega
  rw [this]

theorem q1FnChannels (os : Os) : (World.plainHolding Try.checked.prog os ⟨#[], #[.slice none 0 0], []⟩).variablesB Try.checked.prog = true := by kernel_rfl
theorem q2FnChannels (os : Os) : ((World.plainHolding Try.checked.prog os ⟨#[], #[.slice none 0 0], []⟩).heap.toList.drop Try.checked.prog.globals.size).take ((begin Try.checked.prog (fun _ _ => 0) default).world.heap.size - Try.checked.prog.globals.size) =
      (begin Try.checked.prog (fun _ _ => 0) default).world.heap.toList.drop Try.checked.prog.globals.size := by kernel_rfl
theorem q3FnChannels (os : Os) : Input.okWideB Try.checked.prog (World.plainHolding Try.checked.prog os ⟨#[], #[.slice none 0 0], []⟩) 5 ⟨#[], #[.slice none 0 0], []⟩ = true := by kernel_rfl
theorem q4FnChannels (os : Os) (H : Type) (enc : TypeId × Value → H) : Rows.fnChannelsSpec.preB enc Try.checked.prog Try.f5 Rows.fnChannelsRow.domain false (World.plainHolding Try.checked.prog os ⟨#[], #[.slice none 0 0], []⟩).memory #[.slice none 0 0] 8 = true := by kernel_rfl
theorem q5FnChannels (os : Os) (H : Type) (enc : TypeId × Value → H) : Rows.fnChannelsSpec.sizedB enc Try.checked.prog Try.f5 false (World.plainHolding Try.checked.prog os ⟨#[], #[.slice none 0 0], []⟩).memory #[.slice none 0 0] 8 = true := by kernel_rfl
theorem witFnChannels (os : Os) (H : Type) (enc : TypeId × Value → H) : ∃ (w : World) (tape : Tape) (i : Input), w.os = os ∧ (w.forCall tape i).Shaped Try.checked.prog ∧ i.vars = [] ∧ Input.okWide Try.checked.prog (w.forCall tape i) .any w.heap.size 5 i ∧
      Rows.fnChannelsSpec.pre6 enc Try.checked.prog Try.f5 Rows.fnChannelsRow.domain false (w.forCall tape i).memory i.args ∧ ({} : Assume).holds Try.checked.prog (lone (Frame.enter Try.checked.prog 5 i.args .normal) [] (w.forCall tape i)) :=
    (ChangeSpec.witness6 (enc := enc) (C := Try.checked) false ⟨#[], #[.slice none 0 0], []⟩ 8 (q1FnChannels os) (q2FnChannels os) (q3FnChannels os) (q4FnChannels os H enc) (q5FnChannels os H enc))
theorem r1FnChannels : Try.checked.prog.inits.idxOf? 5 = none := by kernel_rfl
theorem r2FnChannels : ownKnob Try.checked.prog.godebug = none := Try.own0
theorem r3FnChannels : Try.checked.prog.funcs[5]? = some Try.f5 := Try.func5
theorem rdFnChannels0 : Try.prog.readableRec 35 = true ∧ 35 < Try.prog.types.size := ⟨by kernel_rfl, of_decide_eq_true (by kernel_rfl)⟩
theorem rsFnChannels : (Try.f5).resultTypes = #[4] := by kernel_rfl

set_option maxRecDepth 100000 in
theorem contractFnChannels (H : Type) (enc : TypeId × Value → H) (W : World) (base : Nat) (args : Array Value) (ds gs : List (DataW H)) (before : List MemPlace)
    (hval : ∀ (j : Nat) t v, (Try.f5).params[j]? = some t → args[j]? = some v → Value.okWide Try.prog W .any base t v)
    (hW : DataW.Whole enc Try.prog (Try.f5).params.toList Rows.fnChannelsSpec.vars false W args.toList ds gs before) :
    Calls Try.prog 5 args W fun e W' => ∃ v, e = .returned v ∧ Rows.fnChannelsSpec.post enc Try.prog Try.f5 false true false false W args v W' := by
  have hW' := hW
  obtain ⟨p, q, hA0, hV, rfl, hfz, hnd⟩ := hW
  have hA : DataW.TrodAll enc Try.prog W 0 (fun _ => true) true (Try.f5).params.toList args.toList ds p := hA0
  rw [Try.params5] at hA hval
  obtain ⟨v0, vs0, d0, ds0, p0, q0, hargs, rfl, rfl, h0, r0⟩ := trodAll_cons hA
  obtain ⟨rfl, rfl, rfl⟩ := trodAll_nil r0
  obtain rfl : args = #[v0] := by cases args; simp_all
  obtain ⟨a0, n0, cap0, l0, rfl, hn0, hm0, hrd0⟩ := open_flat (fun b : UInt8 => [Value.int .u8 (b.toNat : Int)]) 1 Try.underlying35 (by kernel_rfl) (by decide) decByte (hval 0 35 v0 rfl rfl) h0
  rw [bytes_flat] at hrd0
  refine (lawFnChannels_walk a0 n0 cap0 l0 hn0 hm0 W hrd0).mono fun e W' ⟨he, hb⟩ => ?_
  subst he
  refine ⟨_, rfl, law_post Try.laidOut0 ?_ rsFnChannels Try.underlying4 rfl hW' rfl hb⟩
  rw [Try.params5]
  intro t ht
  simp only [List.mem_cons, List.not_mem_nil, or_false] at ht
  subst ht
  exact rdFnChannels0

theorem liftedFnChannels (os : Os) (started : os.Started) (H : Type) (enc : TypeId × Value → H) :
    ReturnsInHanded {} Try.checked os 5 .any (Rows.fnChannelsSpec.pre6 enc Try.checked.prog Try.f5 Rows.fnChannelsRow.domain false) (Rows.fnChannelsSpec.post enc Try.checked.prog Try.f5 false true false false) := by
  refine returnsInHanded_of_change (C := Try.checked) r2FnChannels started r1FnChannels r3FnChannels (witFnChannels os H enc) ?_
  rw [Try.progEq0]
  intro W base args ds gs before hval hW hcnd _
  exact contractFnChannels H enc W base args ds gs before @hval hW

theorem lifted2FnChannels (os : Os) (started : os.Started) (H : Type) (enc : TypeId × Value → H) :
    ReturnsInHanded {} Try.checked os 5 .any (Rows.fnChannelsSpec.pre6 enc Try.prog Try.f5 Rows.fnChannelsRow.domain false) (Rows.fnChannelsSpec.post enc Try.prog Try.f5 false true false false) := by
  have h := liftedFnChannels os started H enc
  rw [Try.progEq0] at h
  exact h

theorem FnChannels_holds : Rows.FnChannelsSaid :=
  OpenClaim.holds_of_wide 5 Try.f5 rfl rfl rfl rfl rfl rfl rfl ⟨rfl, rfl, rfl, rfl, rfl⟩ rfl rfl rfl rfl rfl (by kernel_rfl) Try.func5 (by kernel_rfl)
    (of_decide_eq_true (by kernel_rfl)) (by unfold Func.isWrapper; first | (rw [if_pos (by decide +kernel)]; kernel_rfl) | (rw [if_neg (by decide +kernel)]; exact ⟨rfl, rfl⟩))
    (fun os started H enc _ => lifted2FnChannels os started H enc)
#print axioms FnChannels_holds

end Go.Proofs.Ytnchmenpgmlpdaa
