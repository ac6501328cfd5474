/- FlowsFor, Flows of both sides. -/
import Derived.Test.YtnchmenpgmlpdaaLabel
import Derived.Test.YtnchmenpgmlpdaaMsgTo
import Derived.Test.YtnchmenpgmlpdaaApp
import Derived.Deep.DeepCutAuto
namespace Go.Proofs.Ytnchmenpgmlpdaa
open Go.RowKit

def upAt (a b : List Int) (i : Nat) : Bool := decide (a.getD i 0 ≤ b.getD i 0)
def aboveL (a b : List Int) : List Int := ((List.range 4).filter (fun i => !upAt a b i)).map (fun (i : Nat) => (i : Int))
def flowsFor (own a b : List Int) : Bool := ownOk own && (labelOk a && (labelOk b && (List.range 4).all (fun i => upAt a b i || hasB own (i : Int))))
def flows (a b : List Int) : Bool := labelOk a && (labelOk b && (List.range 4).all (fun i => upAt a b i))
theorem flows_nil (a b : List Int) : flows a b = flowsFor [] a b := by
  unfold flows flowsFor
  have h : ∀ x, hasB [] x = false := fun x => by unfold hasB; simp
  simp only [h, Bool.or_false]
  rw [show ownOk [] = true from rfl, Bool.true_and]
theorem label_len {l : List Int} (h : labelOk l = true) : l.length = 4 := by
  unfold labelOk at h
  simp only [Bool.and_eq_true, decide_eq_true_eq] at h
  exact h.2
theorem all4 {f : Nat → Bool} {k : Nat} (h : ∀ j, j < k → f j = true) (hk : 4 ≤ k) : (List.range 4).all f = true := by
  rw [List.all_eq_true]
  intro x hx
  exact h x (by have := List.mem_range.1 hx; omega)
theorem not4 {f : Nat → Bool} {k : Nat} (hk : k < 4) (h : f k = false) : (List.range 4).all f = false := by
  rw [List.all_eq_false]
  exact ⟨k, List.mem_range.2 hk, by rw [h]; simp⟩
theorem upto_succ {f : Nat → Bool} {k : Nat} (h : ∀ j, j < k → f j = true) (hk : f k = true) : ∀ j, j < k + 1 → f j = true := fun j hj => by
  by_cases e : j = k
  · subst e; exact hk
  · exact h j (by omega)
theorem up_at {a b : List Int} {k : Nat} {x y : Int} (hx : a[k]? = some x) (hy : b[k]? = some y) : upAt a b k = decide (x ≤ y) := by
  unfold upAt
  rw [List.getD_eq_getElem?_getD, List.getD_eq_getElem?_getD, hx, hy]
  rfl
theorem above_all (own a b : List Int) : (aboveL a b).all (fun c => hasB own c) = (List.range 4).all (fun i => upAt a b i || hasB own (i : Int)) := by
  unfold aboveL
  rw [List.all_map, List.all_filter]
  congr 1
  funext i
  cases upAt a b i <;> simp
theorem icell_append (l m : List Int) : icell (l ++ m) = icell l ++ icell m := by unfold icell; rw [List.map_append]
/-- The first of what is above. -/
def aboveN (a b : List Int) (k : Nat) : List Int := ((List.range k).filter (fun i => !upAt a b i)).map (fun (i : Nat) => (i : Int))
theorem aboveN_yes {a b : List Int} {k : Nat} (h : upAt a b k = false) : aboveN a b (k + 1) = aboveN a b k ++ [(k : Int)] := by
  unfold aboveN
  rw [List.range_succ, List.filter_append, List.map_append]
  simp [h]
theorem aboveN_no {a b : List Int} {k : Nat} (h : upAt a b k = true) : aboveN a b (k + 1) = aboveN a b k := by
  unfold aboveN
  rw [List.range_succ, List.filter_append, List.map_append]
  simp [h]
theorem aboveN_len (a b : List Int) (k : Nat) : (aboveN a b k).length ≤ k := by
  unfold aboveN
  rw [List.length_map]
  have h := List.length_filter_le (fun i => !upAt a b i) (List.range k)
  rwa [List.length_range] at h
set_option maxRecDepth 100000 in
set_option maxHeartbeats 4000000 in
theorem above_any (la lb : List Int) (pa : Option Addr) (ca : Nat) (pb : Option Addr) (cb : Nat) (_hla : la.length ≤ maxLen) (_hlb : lb.length ≤ maxLen) (la4 : la.length = 4) (lb4 : lb.length = 4) (w : World) (ha : Rd w pa (icell la)) (hb : Rd w pb (icell lb)) :
    Calls Try.prog 131 #[.agg #[.slice pa la.length ca], .agg #[.slice pb lb.length cb]] w fun e w' => ∃ v, e = .returned v ∧ w'.ownsRow w.heap.size 3 1 v (aboveL la lb).length (icell (aboveL la lb)) ∧ Below w.heap.size w w' := by
  obtain ⟨i0, hi, hz0, hz1, hz2⟩ := info_parts Try.infoInt
  have LA := hideP la4
  have LB := hideP lb4
  clear la4 lb4
  have B0 := hideP ((Blk.new w #[.slice pa la.length ca] 41).alloc (.cells #[.slice pb lb.length cb] 41))
  have B1 : Hid (Blk ((w.alloc (.cells #[.slice pa la.length ca] 41)).alloc (.cells #[.slice pb lb.length cb] 41)) (w.heap.size + 1) 41 [.slice pb lb.length cb]) := hideP (by have := Blk.new (w.alloc (.cells #[.slice pa la.length ca] 41)) #[.slice pb lb.length cb] 41; simpa using this)
  have HB := hideP (below_a2 w (.cells #[.slice pa la.length ca] 41) (.cells #[.slice pb lb.length cb] 41))
  have RA := hideP ha
  have RB := hideP hb
  clear ha hb
  go_enter Try.func131, Try.ntmps131
  go_upto_region 1 with fail
  obtain ⟨W, hW⟩ : ∃ W, W = (w.alloc (.cells #[.slice pa la.length ca] 41)).alloc (.cells #[.slice pb lb.length cb] 41) := ⟨_, rfl⟩
  rw [← hW] at B0 B1 HB ⊢
  clear hW
  have c0 : W.cell? ⟨w.heap.size, 0, none⟩ = some (.slice pa la.length ca) := (B0.out.cell 0).trans rfl
  have c1 : W.cell? ⟨w.heap.size + 1, 0, none⟩ = some (.slice pb lb.length cb) := (B1.out.cell 0).trans rfl
  have HC : Hid ((W.alloc (.cells #[] 3)).ownsRow W.heap.size 3 1 (.slice (some ⟨W.heap.size, 0, none⟩) 0 0) (aboveN la lb 0).length (icell (aboveN la lb 0))) := hideP (owns_lit (Nat.le_refl _) rfl (by decide) rfl rfl)
  have HG : w.heap.size + 1 < W.heap.size := B1.out.lt
  have B0 := hideP (B0.out.alloc (.cells #[] 3))
  have B1 := hideP (B1.out.alloc (.cells #[] 3))
  have c2 : (W.alloc (.cells #[] 3)).cell? ⟨w.heap.size, 0, none⟩ = some (.slice pa la.length ca) := (B0.out.cell 0).trans rfl
  have HB := hideP (HB.out.alloc HB.out.size (.cells #[] 3))
  have HS : W.heap.size ≤ (W.alloc (.cells #[] 3)).heap.size := by simp
  go_wp2
  go_loopg [5, 12] 5 (fun gk v i wr => ∃ k : Nat, 4 < gk + k ∧ k ≤ 4 ∧ i = .int .i64 (k : Int) ∧ Hid (wr.ownsRow W.heap.size 3 1 v (aboveN la lb k).length (icell (aboveN la lb k))) ∧ Hid (Blk wr w.heap.size 41 [.slice pa la.length ca]) ∧ Hid (Blk wr (w.heap.size + 1) 41 [.slice pb lb.length cb]) ∧ Hid (Below w.heap.size w wr) ∧ W.heap.size ≤ wr.heap.size)
  case atStart => exact ⟨0, by omega, by omega, rfl, HC, B0, B1, HB, HS⟩
  case round =>
    clear B0 B1 HC HB HS
    obtain ⟨k, hgk, hk, rfl, hown, B0, B1, HB1, HS⟩ := hrel
    obtain ⟨pv, cv, rfl, _⟩ := owns_slice hown.out
    have c0 : wr.cell? ⟨w.heap.size, 0, none⟩ = some (.slice pa la.length ca) := (B0.out.cell 0).trans rfl
    have c1 : wr.cell? ⟨w.heap.size + 1, 0, none⟩ = some (.slice pb lb.length cb) := (B1.out.cell 0).trans rfl
    by_cases hlt : k < 4
    · obtain ⟨x, hx⟩ := some_at (l := la) (k := k) (by have := LA.out; omega)
      obtain ⟨y, hy⟩ := some_at (l := lb) (k := k) (by have := LB.out; omega)
      obtain ⟨b1, o1, rfl, hw1, g0⟩ := rdInt (RA.out.below HB1.out) hx
      obtain ⟨b2, o2, rfl, hw2, g1⟩ := rdInt (RB.out.below HB1.out) hy
      have k0 : (0 : Int) ≤ (k : Int) := by omega
      have k1 : (k : Int) < (la.length : Int) := by have := LA.out; omega
      have k2 : (k : Int) < (lb.length : Int) := by have := LB.out; omega
      have k3 : k < la.length := by have := LA.out; omega
      have k4 : k < lb.length := by have := LB.out; omega
      by_cases hxy : x ≤ y
      · have HA : Hid (aboveN la lb (k + 1) = aboveN la lb k) := hideP (aboveN_no (by rw [up_at hx hy, decide_eq_true hxy]))
        have d1 : ¬ (y < x) := by omega
        clear hx hy hxy
        go_wp2
        go_roundg (gk - 1)
        case measure => omega
        case rel => exact ⟨k + 1, by omega, by omega, by go_num, by rw [HA.out]; exact hown, B0, B1, HB1, HS⟩
      · have HA : Hid (aboveN la lb (k + 1) = aboveN la lb k ++ [(k : Int)]) := hideP (aboveN_yes (by rw [up_at hx hy, decide_eq_false hxy]))
        have d1 : y < x := by omega
        have hal := aboveN_len la lb k
        have OB : ∀ q, (Value.slice pv (aboveN la lb k).length cv).ownBlock = some q → w.heap.size + 1 < q := fun q hq => by have := hown.out.lt q hq; omega
        clear hx hy hxy
        go_wp2_with (at_builtin; refine wpList_append_rd _ rfl _ _ 39 rfl W.heap.size 3 i0 (.int .i64 0) 1 8 Try.underlying39 hi hz0 hz1 hz2 rfl (by decide) _ _ _ rfl (World.ownsRow.alloc hown.out _) _ _ _ [.int .i64 (k : Int)] rfl ?c1 (rd_lit rfl) ?c2 ?c3 ?c4 ?c5 ?_)
        case c1 => rfl
        case c2 => simp [Value.oneCell']
        case c3 => unfold maxLen; omega
        case c4 => omega
        case c5 => simp; omega
        intro v9 w9 ho9 hg9
        have B0n := hideP ((B0.out.alloc (.cells #[.int .i64 (k : Int)] 3)).kept (hg9.block _ (B0.out.alloc _).lt (fun e => by have := OB _ e.symm; omega)))
        have B1n := hideP ((B1.out.alloc (.cells #[.int .i64 (k : Int)] 3)).kept (hg9.block _ (B1.out.alloc _).lt (fun e => by have := OB _ e.symm; omega)))
        have hg9s := hg9.size
        simp only [World.size_alloc] at hg9s
        have HBn := hideP ((HB1.out.alloc HB1.out.size (.cells #[.int .i64 (k : Int)] 3)).grown hg9 (by simp; have := HB1.out.size; omega) (fun q hq => by have := OB q hq; omega))
        have HO : Hid (w9.ownsRow W.heap.size 3 1 v9 (aboveN la lb (k + 1)).length (icell (aboveN la lb (k + 1)))) := hideP (by
          rw [HA.out, List.length_append, icell_append]
          exact ho9)
        have HSn : W.heap.size ≤ w9.heap.size := by omega
        clear ho9 hg9 B0 B1 HB1 hown hg9s
        go_wp2
        go_roundg (gk - 1)
        case measure => omega
        case rel => exact ⟨k + 1, by omega, by omega, by go_num, HO, B0n, B1n, HBn, HSn⟩
    · have hk4 : Hid (k = 4) := hideP (by omega)
      have d1 : ¬ ((k : Int) < (la.length : Int)) := by have := LA.out; omega
      go_wp2
      go_ret
      refine ⟨_, rfl, ?_, HB1.out⟩
      rw [show aboveL la lb = aboveN la lb k from by rw [hk4.out]; rfl]
      exact owns_mono hown.out (by omega)
set_option maxRecDepth 100000 in
set_option maxHeartbeats 4000000 in
theorem specFlows_any (la lb : List Int) (pa : Option Addr) (ca : Nat) (pb : Option Addr) (cb : Nat) (hla : la.length ≤ maxLen) (hlb : lb.length ≤ maxLen) (w : World) (ha : Rd w pa (icell la)) (hb : Rd w pb (icell lb)) :
    Calls Try.prog 68 #[.agg #[.slice pa la.length ca], .agg #[.slice pb lb.length cb]] w fun e w' => e = .returned (.bool (flows la lb)) ∧ Below w.heap.size w w' := by
  have B0 := hideP ((Blk.new w #[.slice pa la.length ca] 41).alloc (.cells #[.slice pb lb.length cb] 41))
  have B1 : Hid (Blk ((w.alloc (.cells #[.slice pa la.length ca] 41)).alloc (.cells #[.slice pb lb.length cb] 41)) (w.heap.size + 1) 41 [.slice pb lb.length cb]) := hideP (by have := Blk.new (w.alloc (.cells #[.slice pa la.length ca] 41)) #[.slice pb lb.length cb] 41; simpa using this)
  have HB := hideP (below_a2 w (.cells #[.slice pa la.length ca] 41) (.cells #[.slice pb lb.length cb] 41))
  have RA := hideP ha
  have RB := hideP hb
  clear ha hb
  go_enter Try.func68, Try.ntmps68
  go_upto_region 1 with fail
  obtain ⟨W, hW⟩ : ∃ W, W = (w.alloc (.cells #[.slice pa la.length ca] 41)).alloc (.cells #[.slice pb lb.length cb] 41) := ⟨_, rfl⟩
  rw [← hW] at B0 B1 HB ⊢
  clear hW
  have c0 : W.cell? ⟨w.heap.size, 0, none⟩ = some (.slice pa la.length ca) := (B0.out.cell 0).trans rfl
  have c1 : W.cell? ⟨w.heap.size + 1, 0, none⟩ = some (.slice pb lb.length cb) := (B1.out.cell 0).trans rfl
  go_wp2_with fail
  refine (specLabelOk_any la pa ca hla _ (RA.out.below HB.out)).mono ?_
  rintro e w1 ⟨rfl, hb1⟩
  have B0 := hideP (B0.out.below hb1)
  have B1 := hideP (B1.out.below hb1)
  have HB := hideP (HB.out.trans (hb1.mono HB.out.size))
  clear hb1
  clear c0 c1
  have c0 : w1.cell? ⟨w.heap.size, 0, none⟩ = some (.slice pa la.length ca) := (B0.out.cell 0).trans rfl
  have c1 : w1.cell? ⟨w.heap.size + 1, 0, none⟩ = some (.slice pb lb.length cb) := (B1.out.cell 0).trans rfl
  cases ta : labelOk la
  · have HN : Hid (flows la lb = false) := hideP (by unfold flows; rw [ta]; rfl)
    go_wp2
    go_ret
    exact ⟨ret_bool HN.out.symm, HB.out⟩
  · go_wp2_with fail
    refine (specLabelOk_any lb pb cb hlb _ (RB.out.below HB.out)).mono ?_
    rintro e w2 ⟨rfl, hb2⟩
    have B0 := hideP (B0.out.below hb2)
    have B1 := hideP (B1.out.below hb2)
    have HB := hideP (HB.out.trans (hb2.mono HB.out.size))
    clear hb2
    clear c0 c1
    cases tb : labelOk lb
    · have HN : Hid (flows la lb = false) := hideP (by unfold flows; rw [tb, Bool.false_and, Bool.and_false])
      go_wp2
      go_ret
      exact ⟨ret_bool HN.out.symm, HB.out⟩
    · have HF : Hid (flows la lb = (List.range 4).all (fun i => upAt la lb i)) := hideP (by unfold flows; rw [ta, tb, Bool.true_and, Bool.true_and])
      have la4 := label_len ta
      have lb4 := label_len tb
      clear ta tb
      go_wp2
      go_loopg [5] 5 (fun gk i wr => ∃ k : Nat, 4 < gk + k ∧ k ≤ 4 ∧ i = .int .i64 (k : Int) ∧ Hid (∀ j, j < k → (fun i => upAt la lb i) j = true) ∧ Hid (Blk wr w.heap.size 41 [.slice pa la.length ca]) ∧ Hid (Blk wr (w.heap.size + 1) 41 [.slice pb lb.length cb]) ∧ Hid (Below w.heap.size w wr))
      case atStart => exact ⟨0, by omega, by omega, rfl, hideP (fun j hj => by omega), B0, B1, HB⟩
      case round =>
        clear B0 B1 HB
        obtain ⟨k, hgk, hk, rfl, hup, B0, B1, HB⟩ := hrel
        have c0 : wr.cell? ⟨w.heap.size, 0, none⟩ = some (.slice pa la.length ca) := (B0.out.cell 0).trans rfl
        have c1 : wr.cell? ⟨w.heap.size + 1, 0, none⟩ = some (.slice pb lb.length cb) := (B1.out.cell 0).trans rfl
        by_cases hlt : k < 4
        · obtain ⟨x, hx⟩ := some_at (l := la) (k := k) (by omega)
          obtain ⟨y, hy⟩ := some_at (l := lb) (k := k) (by omega)
          obtain ⟨b1, o1, rfl, hw1, g0⟩ := rdInt (RA.out.below HB.out) hx
          obtain ⟨b2, o2, rfl, hw2, g1⟩ := rdInt (RB.out.below HB.out) hy
          have k0 : (0 : Int) ≤ (k : Int) := by omega
          have k1 : (k : Int) < (la.length : Int) := by omega
          have k2 : (k : Int) < (lb.length : Int) := by omega
          have k3 : k < la.length := by omega
          have k4 : k < lb.length := by omega
          by_cases hxy : x ≤ y
          · have HA := hideP (upto_succ hup.out (show (fun i => upAt la lb i) k = true by dsimp only; rw [up_at hx hy, decide_eq_true hxy]))
            have d1 : decide (y < x) = false := decide_eq_false (by omega)
            clear hx hy hup hxy
            go_wp2
            go_quiet (fail)
            go_wp2
            go_roundg (gk - 1)
            case measure => omega
            case rel => exact ⟨k + 1, by omega, by omega, by go_num, HA, hideP B0.out, hideP B1.out, hideP (below_drewN HB.out _)⟩
          · have d1 : decide (y < x) = true := decide_eq_true (by omega)
            have HN : Hid (flows la lb = false) := hideP (by rw [HF.out]; exact not4 hlt (by rw [up_at hx hy, decide_eq_false hxy]))
            clear hx hy hup hxy
            go_wp2
            go_quiet (fail)
            go_wp2
            go_ret
            exact ⟨ret_bool HN.out.symm, below_drewN HB.out _⟩
        · have HN : Hid (flows la lb = true) := hideP (by rw [HF.out]; exact all4 hup.out (by omega))
          have d1 : ¬ ((k : Int) < 4) := by omega
          clear hup
          go_wp2
          go_ret
          exact ⟨ret_bool HN.out.symm, HB.out⟩
set_option maxRecDepth 100000 in
set_option maxHeartbeats 4000000 in
theorem specFlowsFor_any (own : List Int) (po : Option Addr) (co : Nat) (hlo : own.length ≤ maxLen) (la lb : List Int) (pa : Option Addr) (ca : Nat) (pb : Option Addr) (cb : Nat) (hla : la.length ≤ maxLen) (hlb : lb.length ≤ maxLen) (w : World) (hro : Rd w po (icell own)) (ha : Rd w pa (icell la)) (hb : Rd w pb (icell lb)) :
    Calls Try.prog 69 #[.slice po own.length co, .agg #[.slice pa la.length ca], .agg #[.slice pb lb.length cb]] w fun e w' => e = .returned (.bool (flowsFor own la lb)) ∧ Below w.heap.size w w' := by
  have RO := hideP hro
  clear hro
  have B0 := hideP ((Blk.new w #[.slice pa la.length ca] 41).alloc (.cells #[.slice pb lb.length cb] 41))
  have B1 : Hid (Blk ((w.alloc (.cells #[.slice pa la.length ca] 41)).alloc (.cells #[.slice pb lb.length cb] 41)) (w.heap.size + 1) 41 [.slice pb lb.length cb]) := hideP (by have := Blk.new (w.alloc (.cells #[.slice pa la.length ca] 41)) #[.slice pb lb.length cb] 41; simpa using this)
  have HB := hideP (below_a2 w (.cells #[.slice pa la.length ca] 41) (.cells #[.slice pb lb.length cb] 41))
  have RA := hideP ha
  have RB := hideP hb
  clear ha hb
  go_enter Try.func69, Try.ntmps69
  go_upto_region 1 with fail
  obtain ⟨W, hW⟩ : ∃ W, W = (w.alloc (.cells #[.slice pa la.length ca] 41)).alloc (.cells #[.slice pb lb.length cb] 41) := ⟨_, rfl⟩
  rw [← hW] at B0 B1 HB ⊢
  clear hW
  go_wp2_with fail
  refine (specOwnOk_any own po co hlo _ (RO.out.below HB.out)).mono ?_
  rintro e w1 ⟨rfl, qq1⟩
  have hb1 := qq1.below W.heap.size
  have B0 := hideP (B0.out.below hb1)
  have B1 := hideP (B1.out.below hb1)
  have HB := hideP (HB.out.trans (hb1.mono HB.out.size))
  clear hb1 qq1
  have c0 : w1.cell? ⟨w.heap.size, 0, none⟩ = some (.slice pa la.length ca) := (B0.out.cell 0).trans rfl
  have c1 : w1.cell? ⟨w.heap.size + 1, 0, none⟩ = some (.slice pb lb.length cb) := (B1.out.cell 0).trans rfl
  cases tw : ownOk own
  · have HN : Hid (flowsFor own la lb = false) := hideP (by unfold flowsFor; rw [tw]; rfl)
    go_wp2
    go_ret
    exact ⟨ret_bool HN.out.symm, HB.out⟩
  · go_wp2_with fail
    refine (specLabelOk_any la pa ca hla _ (RA.out.below HB.out)).mono ?_
    rintro e w2 ⟨rfl, hb2⟩
    have B0 := hideP (B0.out.below hb2)
    have B1 := hideP (B1.out.below hb2)
    have HB := hideP (HB.out.trans (hb2.mono HB.out.size))
    clear hb2
    clear c0 c1
    have c0 : w2.cell? ⟨w.heap.size, 0, none⟩ = some (.slice pa la.length ca) := (B0.out.cell 0).trans rfl
    have c1 : w2.cell? ⟨w.heap.size + 1, 0, none⟩ = some (.slice pb lb.length cb) := (B1.out.cell 0).trans rfl
    cases ta : labelOk la
    · have HN : Hid (flowsFor own la lb = false) := hideP (by unfold flowsFor; rw [ta, Bool.false_and, Bool.and_false])
      go_wp2
      go_ret
      exact ⟨ret_bool HN.out.symm, HB.out⟩
    · go_wp2_with fail
      refine (specLabelOk_any lb pb cb hlb _ (RB.out.below HB.out)).mono ?_
      rintro e w3 ⟨rfl, hb3⟩
      have B0 := hideP (B0.out.below hb3)
      have B1 := hideP (B1.out.below hb3)
      have HB := hideP (HB.out.trans (hb3.mono HB.out.size))
      clear hb3
      clear c0 c1
      cases tb : labelOk lb
      · have HN : Hid (flowsFor own la lb = false) := hideP (by unfold flowsFor; rw [tb, Bool.false_and, Bool.and_false, Bool.and_false])
        go_wp2
        go_ret
        exact ⟨ret_bool HN.out.symm, HB.out⟩
      · have HF : Hid (flowsFor own la lb = (List.range 4).all (fun i => upAt la lb i || hasB own (i : Int))) := hideP (by unfold flowsFor; rw [tw, ta, tb, Bool.true_and, Bool.true_and, Bool.true_and])
        have LA := hideP (label_len ta)
        have LB := hideP (label_len tb)
        clear ta tb tw
        have la4 := LA.out
        have lb4 := LB.out
        go_wp2
        go_loopg [7] 5 (fun gk i wr => ∃ k : Nat, 4 < gk + k ∧ k ≤ 4 ∧ i = .int .i64 (k : Int) ∧ Hid (∀ j, j < k → (fun i => upAt la lb i || hasB own (i : Int)) j = true) ∧ Hid (Blk wr w.heap.size 41 [.slice pa la.length ca]) ∧ Hid (Blk wr (w.heap.size + 1) 41 [.slice pb lb.length cb]) ∧ Hid (Below w.heap.size w wr))
        case atStart => exact ⟨0, by omega, by omega, rfl, hideP (fun j hj => by omega), B0, B1, HB⟩
        case round =>
          clear B0 B1 HB
          obtain ⟨k, hgk, hk, rfl, hup, B0, B1, HB⟩ := hrel
          have c0 : wr.cell? ⟨w.heap.size, 0, none⟩ = some (.slice pa la.length ca) := (B0.out.cell 0).trans rfl
          have c1 : wr.cell? ⟨w.heap.size + 1, 0, none⟩ = some (.slice pb lb.length cb) := (B1.out.cell 0).trans rfl
          by_cases hlt : k < 4
          · obtain ⟨x, hx⟩ := some_at (l := la) (k := k) (by omega)
            obtain ⟨y, hy⟩ := some_at (l := lb) (k := k) (by omega)
            obtain ⟨b1, o1, rfl, hw1, g0⟩ := rdInt (RA.out.below HB.out) hx
            obtain ⟨b2, o2, rfl, hw2, g1⟩ := rdInt (RB.out.below HB.out) hy
            have k0 : (0 : Int) ≤ (k : Int) := by omega
            have k1 : (k : Int) < (la.length : Int) := by omega
            have k2 : (k : Int) < (lb.length : Int) := by omega
            have k3 : k < la.length := by omega
            have k4 : k < lb.length := by omega
            have RO1 := hideP (RO.out.below HB.out)
            by_cases hxy : x ≤ y
            · have HA := hideP (upto_succ hup.out (show (fun i => upAt la lb i || hasB own (i : Int)) k = true by dsimp only; rw [up_at hx hy, decide_eq_true hxy]; rfl))
              have d1 : decide (y < x) = false := decide_eq_false (by omega)
              clear hx hy hup hxy
              go_wp2
              go_quiet ((go_at_call 125; exact quietL (l4Has_any own po co _ hlo _ (RO1.out.drewN _))))
              go_wp2
              go_roundg (gk - 1)
              case measure => omega
              case rel => exact ⟨k + 1, by omega, by omega, by go_num, HA, hideP B0.out, hideP B1.out, hideP (below_drewN HB.out _)⟩
            · have d1 : decide (y < x) = true := decide_eq_true (by omega)
              cases th : hasB own (k : Int)
              · have HN : Hid (flowsFor own la lb = false) := hideP (by rw [HF.out]; exact not4 hlt (show (fun i => upAt la lb i || hasB own (i : Int)) k = false by dsimp only; rw [up_at hx hy, decide_eq_false hxy, th]; rfl))
                clear hx hy hup hxy
                go_wp2
                go_quiet ((go_at_call 125; exact quietL (l4Has_any own po co _ hlo _ (RO1.out.drewN _))))
                go_wp2
                go_ret
                exact ⟨ret_bool HN.out.symm, below_drewN HB.out _⟩
              · have HA := hideP (upto_succ hup.out (show (fun i => upAt la lb i || hasB own (i : Int)) k = true by dsimp only; rw [th, Bool.or_true]))
                clear hx hy hup hxy
                go_wp2
                go_quiet ((go_at_call 125; exact quietL (l4Has_any own po co _ hlo _ (RO1.out.drewN _))))
                go_wp2
                go_roundg (gk - 1)
                case measure => omega
                case rel => exact ⟨k + 1, by omega, by omega, by go_num, HA, hideP B0.out, hideP B1.out, hideP (below_drewN HB.out _)⟩
          · have HN : Hid (flowsFor own la lb = true) := hideP (by rw [HF.out]; exact all4 hup.out (by omega))
            have d1 : ¬ ((k : Int) < 4) := by omega
            clear hup
            go_wp2
            go_ret
            exact ⟨ret_bool HN.out.symm, HB.out⟩
set_option maxRecDepth 100000 in
set_option maxHeartbeats 4000000 in
theorem implFlowsFor_any (own : List Int) (po : Option Addr) (co : Nat) (hlo : own.length ≤ maxLen) (la lb : List Int) (pa : Option Addr) (ca : Nat) (pb : Option Addr) (cb : Nat) (hla : la.length ≤ maxLen) (hlb : lb.length ≤ maxLen) (w : World) (hro : Rd w po (icell own)) (ha : Rd w pa (icell la)) (hb : Rd w pb (icell lb)) :
    Calls Try.prog 73 #[.slice po own.length co, .agg #[.slice pa la.length ca], .agg #[.slice pb lb.length cb]] w fun e w' => e = .returned (.bool (flowsFor own la lb)) ∧ Below w.heap.size w w' := by
  have RO := hideP hro
  clear hro
  have B0 := hideP ((Blk.new w #[.slice pa la.length ca] 41).alloc (.cells #[.slice pb lb.length cb] 41))
  have B1 : Hid (Blk ((w.alloc (.cells #[.slice pa la.length ca] 41)).alloc (.cells #[.slice pb lb.length cb] 41)) (w.heap.size + 1) 41 [.slice pb lb.length cb]) := hideP (by have := Blk.new (w.alloc (.cells #[.slice pa la.length ca] 41)) #[.slice pb lb.length cb] 41; simpa using this)
  have HB := hideP (below_a2 w (.cells #[.slice pa la.length ca] 41) (.cells #[.slice pb lb.length cb] 41))
  have RA := hideP ha
  have RB := hideP hb
  clear ha hb
  go_enter Try.func73, Try.ntmps73
  go_upto_region 1 with fail
  obtain ⟨W, hW⟩ : ∃ W, W = (w.alloc (.cells #[.slice pa la.length ca] 41)).alloc (.cells #[.slice pb lb.length cb] 41) := ⟨_, rfl⟩
  rw [← hW] at B0 B1 HB ⊢
  clear hW
  go_wp2_with fail
  refine (implOwnOk_any own po co hlo _ (RO.out.below HB.out)).mono ?_
  rintro e w1 ⟨rfl, qq1⟩
  have hb1 := qq1.below W.heap.size
  have B0 := hideP (B0.out.below hb1)
  have B1 := hideP (B1.out.below hb1)
  have HB := hideP (HB.out.trans (hb1.mono HB.out.size))
  clear hb1 qq1
  have c0 : w1.cell? ⟨w.heap.size, 0, none⟩ = some (.slice pa la.length ca) := (B0.out.cell 0).trans rfl
  have c1 : w1.cell? ⟨w.heap.size + 1, 0, none⟩ = some (.slice pb lb.length cb) := (B1.out.cell 0).trans rfl
  cases tw : ownOk own
  · have HN : Hid (flowsFor own la lb = false) := hideP (by unfold flowsFor; rw [tw]; rfl)
    go_wp2
    go_ret
    exact ⟨ret_bool HN.out.symm, HB.out⟩
  · go_wp2_with fail
    refine (implLabelOk_any la pa ca hla _ (RA.out.below HB.out)).mono ?_
    rintro e w2 ⟨rfl, hb2⟩
    have B0 := hideP (B0.out.below hb2)
    have B1 := hideP (B1.out.below hb2)
    have HB := hideP (HB.out.trans (hb2.mono HB.out.size))
    clear hb2
    clear c0 c1
    have c0 : w2.cell? ⟨w.heap.size, 0, none⟩ = some (.slice pa la.length ca) := (B0.out.cell 0).trans rfl
    have c1 : w2.cell? ⟨w.heap.size + 1, 0, none⟩ = some (.slice pb lb.length cb) := (B1.out.cell 0).trans rfl
    cases ta : labelOk la
    · have HN : Hid (flowsFor own la lb = false) := hideP (by unfold flowsFor; rw [ta, Bool.false_and, Bool.and_false])
      go_wp2
      go_ret
      exact ⟨ret_bool HN.out.symm, HB.out⟩
    · go_wp2_with fail
      refine (implLabelOk_any lb pb cb hlb _ (RB.out.below HB.out)).mono ?_
      rintro e w3 ⟨rfl, hb3⟩
      have B0 := hideP (B0.out.below hb3)
      have B1 := hideP (B1.out.below hb3)
      have HB := hideP (HB.out.trans (hb3.mono HB.out.size))
      clear hb3
      clear c0 c1
      cases tb : labelOk lb
      · have HN : Hid (flowsFor own la lb = false) := hideP (by unfold flowsFor; rw [tb, Bool.false_and, Bool.and_false, Bool.and_false])
        go_wp2
        go_ret
        exact ⟨ret_bool HN.out.symm, HB.out⟩
      · have HF : Hid (flowsFor own la lb = (List.range 4).all (fun i => upAt la lb i || hasB own (i : Int))) := hideP (by unfold flowsFor; rw [tw, ta, tb, Bool.true_and, Bool.true_and, Bool.true_and])
        have LA := hideP (label_len ta)
        have LB := hideP (label_len tb)
        clear ta tb tw
        have c0 : w3.cell? ⟨w.heap.size, 0, none⟩ = some (.slice pa la.length ca) := (B0.out.cell 0).trans rfl
        have c1 : w3.cell? ⟨w.heap.size + 1, 0, none⟩ = some (.slice pb lb.length cb) := (B1.out.cell 0).trans rfl
        go_wp2_with fail
        refine (above_any la lb pa ca pb cb hla hlb LA.out LB.out _ (RA.out.below HB.out) (RB.out.below HB.out)).mono ?_
        rintro e w4 ⟨v, rfl, ho, hb4⟩
        obtain ⟨p4, c4, rfl, _⟩ := owns_slice ho
        have HB := hideP (HB.out.trans (hb4.mono HB.out.size))
        have R4 := hideP (rd_of_owns ho)
        have HF2 := hideP (HF.out.trans (above_all own la lb).symm)
        have l4 : (aboveL la lb).length ≤ 4 := aboveN_len la lb 4
        clear ho hb4 c0 c1 B0 B1 HF
        generalize aboveL la lb = L at *
        go_wp2
        go_loopg [26] (L.length + 1) (fun gk i wr => ∃ k : Nat, L.length < gk + k ∧ k ≤ L.length ∧ i = .int .i64 (k : Int) ∧ Hid (L.all (fun c => hasB own c) = (L.drop k).all (fun c => hasB own c)) ∧ w4 = wr)
        case atStart => exact ⟨0, by omega, by omega, rfl, hideP rfl, rfl⟩
        case round =>
          obtain ⟨k, hgk, hk, rfl, hal, rfl⟩ := hrel
          by_cases hlt : k < L.length
          · obtain ⟨x, hx⟩ := some_at (l := L) (k := k) hlt
            obtain ⟨b1, o1, rfl, hw1, g0⟩ := rdInt R4.out hx
            have k0 : (0 : Int) ≤ (k : Int) := by omega
            have k1 : (k : Int) < (L.length : Int) := by omega
            cases th : hasB own x
            · have HN : Hid (flowsFor own la lb = false) := hideP (by rw [HF2.out]; exact all_bad hal.out hx th)
              clear hx hal
              go_wp2_with fail
              refine (contains_any own po co x hlo _ (RO.out.below HB.out)).mono ?_
              rintro e w' ⟨rfl, rfl⟩
              rw [th]
              go_wp2
              go_ret
              exact ⟨ret_bool HN.out.symm, HB.out⟩
            · have HA := hideP (all_good hal.out hx th)
              clear hx hal
              go_wp2_with fail
              refine (contains_any own po co x hlo _ (RO.out.below HB.out)).mono ?_
              rintro e w' ⟨rfl, rfl⟩
              rw [th]
              go_wp2
              go_roundg (gk - 1)
              case measure => omega
              case rel => exact ⟨k + 1, by omega, by omega, by go_num, HA, rfl⟩
          · have HN : Hid (flowsFor own la lb = true) := hideP (by rw [HF2.out, hal.out, List.drop_eq_nil_of_le (by omega)]; rfl)
            have d1 : ¬ ((k : Int) < (L.length : Int)) := by omega
            clear hal
            go_wp2
            go_ret
            exact ⟨ret_bool HN.out.symm, HB.out⟩
set_option maxRecDepth 100000 in
set_option maxHeartbeats 4000000 in
theorem implFlows_any (la lb : List Int) (pa : Option Addr) (ca : Nat) (pb : Option Addr) (cb : Nat) (hla : la.length ≤ maxLen) (hlb : lb.length ≤ maxLen) (w : World) (ha : Rd w pa (icell la)) (hb : Rd w pb (icell lb)) :
    Calls Try.prog 72 #[.agg #[.slice pa la.length ca], .agg #[.slice pb lb.length cb]] w fun e w' => e = .returned (.bool (flows la lb)) ∧ Below w.heap.size w w' := by
  have B0 := hideP ((Blk.new w #[.slice pa la.length ca] 41).alloc (.cells #[.slice pb lb.length cb] 41))
  have B1 : Hid (Blk ((w.alloc (.cells #[.slice pa la.length ca] 41)).alloc (.cells #[.slice pb lb.length cb] 41)) (w.heap.size + 1) 41 [.slice pb lb.length cb]) := hideP (by have := Blk.new (w.alloc (.cells #[.slice pa la.length ca] 41)) #[.slice pb lb.length cb] 41; simpa using this)
  have HB := hideP (below_a2 w (.cells #[.slice pa la.length ca] 41) (.cells #[.slice pb lb.length cb] 41))
  have RA := hideP ha
  have RB := hideP hb
  clear ha hb
  go_enter Try.func72, Try.ntmps72
  go_upto_region 1 with fail
  obtain ⟨W, hW⟩ : ∃ W, W = (w.alloc (.cells #[.slice pa la.length ca] 41)).alloc (.cells #[.slice pb lb.length cb] 41) := ⟨_, rfl⟩
  rw [← hW] at B0 B1 HB ⊢
  clear hW
  have c0 : W.cell? ⟨w.heap.size, 0, none⟩ = some (.slice pa la.length ca) := (B0.out.cell 0).trans rfl
  have c1 : W.cell? ⟨w.heap.size + 1, 0, none⟩ = some (.slice pb lb.length cb) := (B1.out.cell 0).trans rfl
  go_wp2_with fail
  refine (implFlowsFor_any [] none 0 (by decide) la lb pa ca pb cb hla hlb _ (.inl rfl) (RA.out.below HB.out) (RB.out.below HB.out)).mono ?_
  rintro e w1 ⟨rfl, hb1⟩
  have HB := hideP (HB.out.trans (hb1.mono HB.out.size))
  rw [← flows_nil]
  go_wp2
  go_ret
  exact ⟨rfl, HB.out⟩

end Go.Proofs.Ytnchmenpgmlpdaa
