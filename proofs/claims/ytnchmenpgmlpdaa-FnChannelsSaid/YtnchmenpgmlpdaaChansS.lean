/- Channels of the reference. -/
import Derived.Test.YtnchmenpgmlpdaaBootOkS
import Derived.Test.YtnchmenpgmlpdaaApp
import Derived.Test.YtnchmenpgmlpdaaChan0
import Derived.Lib.QuietBelow
namespace Go.Proofs.Ytnchmenpgmlpdaa
open Go.RowKit

def mayFlow (owned : Bool) (x y : Boot) : Bool := if owned then flowsFor x.own x.lv y.lv || flowsFor y.own x.lv y.lv else flows x.lv y.lv
def chPick (owned : Bool) (l : List Boot) (k j : Nat) : List Chan := match l[k]?, l[j]? with
  | some x, some y => if k ≠ j ∧ mayFlow owned x y = true then [⟨(k : Int), (j : Int)⟩] else []
  | _, _ => []
def chRow (owned : Bool) (l : List Boot) (k m : Nat) : List Chan := (List.range m).flatMap (chPick owned l k)
def chRows (owned : Bool) (l : List Boot) (k : Nat) : List Chan := (List.range k).flatMap fun i => chRow owned l i l.length
def channels (owned : Bool) (l : List Boot) : List Chan := if bootOk l then chRows owned l l.length else []
theorem chRow_succ (owned : Bool) (l : List Boot) (k m : Nat) : chRow owned l k (m + 1) = chRow owned l k m ++ chPick owned l k m := by
  unfold chRow; rw [List.range_succ, List.flatMap_append]; simp
theorem chRows_succ (owned : Bool) (l : List Boot) (k : Nat) : chRows owned l (k + 1) = chRows owned l k ++ chRow owned l k l.length := by
  unfold chRows; rw [List.range_succ, List.flatMap_append]; simp
theorem chPick_len (owned : Bool) (l : List Boot) (k j : Nat) : (chPick owned l k j).length ≤ 1 := by
  unfold chPick; split
  · split <;> simp
  · simp
theorem chRow_len (owned : Bool) (l : List Boot) (k : Nat) : ∀ m, (chRow owned l k m).length ≤ m
  | 0 => by simp [chRow]
  | m + 1 => by
    rw [chRow_succ, List.length_append]
    have := chRow_len owned l k m
    have := chPick_len owned l k m
    omega
theorem chRows_len (owned : Bool) (l : List Boot) : ∀ k, (chRows owned l k).length ≤ k * l.length
  | 0 => by simp [chRows]
  | k + 1 => by
    rw [chRows_succ, List.length_append, Nat.add_mul]
    have := chRows_len owned l k
    have := chRow_len owned l k l.length
    omega
theorem bootOk_len {l : List Boot} (h : bootOk l = true) : 1 ≤ l.length ∧ l.length ≤ 3 := by
  unfold bootOk at h
  rw [Bool.and_eq_true, inB_true] at h
  omega
theorem channels_len (owned : Bool) (l : List Boot) : (channels owned l).length ≤ 9 := by
  unfold channels
  split
  · next h =>
    have h1 := chRows_len owned l l.length
    have h2 := bootOk_len h
    have h3 : l.length * l.length ≤ 3 * 3 := Nat.mul_le_mul h2.2 h2.2
    omega
  · simp
theorem chPick_yes {owned : Bool} {l : List Boot} {k j : Nat} {x y : Boot} (hx : l[k]? = some x) (hy : l[j]? = some y) (hk : k ≠ j) (h : mayFlow owned x y = true) : chPick owned l k j = [⟨(k : Int), (j : Int)⟩] := by
  unfold chPick; rw [hx, hy]; exact if_pos ⟨hk, h⟩
theorem chPick_no {owned : Bool} {l : List Boot} {k j : Nat} {x y : Boot} (hx : l[k]? = some x) (hy : l[j]? = some y) (h : mayFlow owned x y = false) : chPick owned l k j = [] := by
  unfold chPick; rw [hx, hy]; exact if_neg (fun e => by rw [h] at e; exact absurd e.2 (by simp))
theorem chPick_same (owned : Bool) (l : List Boot) (k : Nat) : chPick owned l k k = [] := by
  unfold chPick; split
  · exact if_neg (fun e => e.1 rfl)
  · rfl
def ChAcc (w : World) (xs : List Chan) (v : Value) (wr : World) : Prop := Acc w 52 2 xs.length (xs.flatMap Chan.enc) v wr
theorem ChAcc.snoc {w wr : World} {xs : List Chan} {c : Chan} {v : Value} (h : Acc w 52 2 (xs.length + 1) (xs.flatMap Chan.enc ++ Chan.enc c) v wr) : ChAcc w (xs ++ [c]) v wr := by
  unfold ChAcc
  rw [List.length_append, List.flatMap_append]
  simpa using h
theorem owns_ne_blk {w : World} {base : Nat} {e T : TypeId} {s n X : Nat} {v : Value} {xs cs : List Value} (ho : w.ownsRow base e s v n xs) (hB : Blk w X T cs) (hne : e ≠ T) : v.ownBlock ≠ some X := by
  intro hq
  obtain ⟨_, h2⟩ := ho
  rcases h2 with ⟨rfl, _⟩ | ⟨b, cap, cur, rfl, _, hg, _⟩
  · cases hq
  · obtain rfl : b = X := by simpa [Value.ownBlock] using hq
    unfold Blk at hB
    have h9 := Option.some.inj (hB.symm.trans hg)
    injection h9 with _ h10 _
    exact hne h10.symm
set_option maxRecDepth 100000 in
set_option maxHeartbeats 8000000 in
theorem specChannels_any (owned : Bool) (l : List Boot) (p : Option Addr) (c : Nat) (hl : l.length ≤ maxLen) (w : World) (h : BootsRd w p l) :
    Calls Try.prog 14 #[.slice p l.length c, .bool owned] w (OwnRet w 52 2 (channels owned l).length ((channels owned l).flatMap Chan.enc)) := by
  obtain ⟨i0, hi, hz0, hz1, hz2⟩ := info_parts Try.infoChan
  have HR := hideP h
  clear h
  have hb0 := below_a1 w (.cells #[] 52)
  have RB := hideP (HR.out.below hb0)
  go_enter Try.func14, Try.ntmps14
  go_wp2_with fail
  refine (specBootOk_any l p c hl _ RB.out).mono ?_
  rintro e w1 ⟨rfl, hb1⟩
  have HC : Hid (ChAcc w [] (.slice (some ⟨w.heap.size, 0, none⟩) 0 0) w1) := hideP (Acc.below (Acc.nil (Below.refl _ _) rfl) hb1)
  clear hb1 hb0 RB
  cases tk : bootOk l
  · have HN : Hid (channels owned l = []) := hideP (by unfold channels; rw [tk]; rfl)
    go_wp2
    go_ret
    rw [HN.out]
    exact Acc.ret HC.out
  · have HN : Hid (channels owned l = chRows owned l l.length) := hideP (by unfold channels; rw [tk]; rfl)
    obtain ⟨hl1, hl3⟩ := bootOk_len tk
    clear tk
    go_wp2
    go_loopg [5, 6] (l.length + 1) (fun gk v i wr => ∃ (k : Nat), l.length < gk + k ∧ k ≤ l.length ∧ i = .int .i64 (k : Int) ∧ Hid (ChAcc w (chRows owned l k) v wr))
    case atStart => exact ⟨0, by omega, by omega, rfl, HC⟩
    case round =>
      clear HC
      obtain ⟨k, hgk, hk, rfl, hacc⟩ := hrel
      obtain ⟨gko, rfl⟩ : ∃ g, g = gk := ⟨_, rfl⟩
      by_cases hlt : k < l.length
      · obtain ⟨x, hx⟩ := some_at (l := l) (k := k) hlt
        have HX0 := hideP hx
        clear hx
        have k0 : (0 : Int) ≤ (k : Int) := by omega
        have k1 : (k : Int) < (l.length : Int) := by omega
        go_wp2
        go_loopg [5, 7] (l.length + 1) (fun gk v i wr => ∃ (j : Nat) (xs : List Chan), l.length < gk + j ∧ j ≤ l.length ∧ i = .int .i64 (j : Int) ∧ Hid (xs = chRows owned l k ++ chRow owned l k j) ∧ Hid (ChAcc w xs v wr))
        case atStart => exact ⟨0, chRows owned l k, by omega, by omega, rfl, hideP (by simp [chRow]), hacc⟩
        case round =>
          clear hacc
          obtain ⟨j, xs, hgj, hj, rfl, hxs, hacc⟩ := hrel
          by_cases hlj : j < l.length
          · have hx := HX0.out
            obtain ⟨y, hy⟩ := some_at (l := l) (k := j) hlj
            by_cases hkj : k = j
            · have HX : Hid (xs = chRows owned l k ++ chRow owned l k (j + 1)) := hideP (by rw [hxs.out, chRow_succ, ← hkj, chPick_same, List.append_nil])
              have d1 : ((k : Int) == (j : Int)) = true := by simp [hkj]
              clear hkj hxs hx hy
              go_wp2
              go_roundg (gk - 1)
              case measure => omega
              case rel => exact ⟨j + 1, xs, by omega, by omega, by go_num, HX, hacc⟩
            · have d1 : ((k : Int) == (j : Int)) = false := by simp; omega
              obtain ⟨b, o, al, cl, ao, co, rfl, hbw, r1, r2, m1, m2, g0, g1, _, _, _⟩ := HR.out.below hacc.out.2 k x hx
              obtain ⟨b', o', bl, dl, bo, do9, e', _, s1, s2, n1, n2, j0, j1, _, _, _⟩ := HR.out.below hacc.out.2 j y hy
              cases e'
              have k2 : (0 : Int) ≤ (j : Int) := by omega
              have k3 : (j : Int) < (l.length : Int) := by omega
              go_wp2
              clear d1
              have q_g0 := fun d os => cell_regrown g0 d os
              have q_j0 := fun d os => cell_regrown j0 d os
              refine wp_region_quiet_below (by kernel_rfl) (by kernel_rfl) ?_
              repeat (first | go_big_quiet_step ((first | (go_at_call 68; exact Calls.regrown_of (specFlows_any x.lv y.lv al cl bl dl m1 n1 _ (r1.below (below_regrown _ _ _)) (s1.below (below_regrown _ _ _)))))) | quiet_step ((first | (go_at_call 68; exact Calls.regrown_of (specFlows_any x.lv y.lv al cl bl dl m1 n1 _ (r1.below (below_regrown _ _ _)) (s1.below (below_regrown _ _ _)))))))
              refine wpQuiet_nil ?_
              intro _ hw'
              obtain ⟨⟨dq, osq⟩, hw''⟩ := hw'
              subst hw''
              clear q_g0 q_j0
              obtain ⟨wq, hwq⟩ : ∃ wq, wq = Go.Sort.grow (redrawn wr dq) osq := ⟨_, rfl⟩
              have hbwq : Below wr.heap.size wr wq := hwq ▸ below_regrown _ dq osq
              rw [← hwq]
              clear hwq
              have hacc := hideP (Acc.below hacc.out hbwq)
              have r1 := r1.below hbwq
              have r2 := r2.below hbwq
              have s1 := s1.below hbwq
              have s2 := s2.below hbwq
              have hzq := hbwq.size
              cases owned
              · clear r1 r2 s1 s2 g0 g1 j0 j1 hbwq
                cases tf : flows x.lv y.lv
                · have hmf : mayFlow false x y = false := tf
                  have HX : Hid (xs = chRows false l k ++ chRow false l k (j + 1)) := hideP (by rw [hxs.out, chRow_succ, chPick_no hx hy hmf, List.append_nil])
                  clear hxs hx hy
                  go_wp2
                  go_roundg (gk - 1)
                  case measure => omega
                  case rel => exact ⟨j + 1, xs, by omega, by omega, by go_num, HX, hacc⟩
                · have hmf : mayFlow false x y = true := tf
                  have HX : Hid (xs ++ [⟨(k : Int), (j : Int)⟩] = chRows false l k ++ chRow false l k (j + 1)) := hideP (by rw [hxs.out, chRow_succ, chPick_yes hx hy hkj hmf, List.append_assoc])
                  have hxl : xs.length ≤ 20 := by rw [hxs.out, List.length_append]; have h1 := chRows_len false l k; have h2 := chRow_len false l k j; have h3 : k * l.length ≤ 3 * 3 := Nat.mul_le_mul (by omega) hl3; omega
                  clear hxs hx hy
                  go_wp2_with (at_builtin; refine wpList_append_rd _ rfl _ _ 24 rfl w.heap.size 52 i0 (.agg #[.int .i64 0, .int .i64 0]) 2 16 Try.underlying24 hi hz0 hz1 hz2 rfl (by decide) _ _ _ rfl (World.ownsRow.alloc hacc.out.1 _) _ _ _ (Chan.enc ⟨(k : Int), (j : Int)⟩) rfl ?c1 (rd_lit rfl) ?c2 ?c3 ?c4 ?c5 ?_)
                  case c1 => simp [Chan.enc]
                  case c2 => simp [Value.oneCell', Chan.enc]
                  case c3 => unfold maxLen; omega
                  case c4 => omega
                  case c5 => have := hacc.out.2.size; simp; omega
                  intro v9 w9 ho9 hg9
                  have HA9 : Hid (ChAcc w (xs ++ [⟨(k : Int), (j : Int)⟩]) v9 w9) := hideP (ChAcc.snoc ⟨ho9, (hacc.out.2.alloc hacc.out.2.size _).grown hg9 (by have := hacc.out.2.size; simp; omega) (fun q hq => (hacc.out.1.lt q hq).1)⟩)
                  clear ho9 hg9 hacc
                  go_wp2
                  go_roundg (gk - 1)
                  case measure => omega
                  case rel => exact ⟨j + 1, xs ++ [⟨(k : Int), (j : Int)⟩], by omega, by omega, by go_num, HX, HA9⟩
              · have g0 := (hbwq.cell (p := ⟨b, _, none⟩) hbw).trans g0
                have g1 := (hbwq.cell (p := ⟨b, _, none⟩) hbw).trans g1
                have j0 := (hbwq.cell (p := ⟨b, _, none⟩) hbw).trans j0
                have j1 := (hbwq.cell (p := ⟨b, _, none⟩) hbw).trans j1
                clear hbwq
                cases tf : flowsFor x.own x.lv y.lv
                · have q_g0 := fun d os => cell_regrown g0 d os
                  have q_g1 := fun d os => cell_regrown g1 d os
                  have q_j0 := fun d os => cell_regrown j0 d os
                  have q_j1 := fun d os => cell_regrown j1 d os
                  have C1 : Hid (∀ d os, Calls Try.prog 69 #[.slice ao x.own.length co, .agg #[.slice al x.lv.length cl], .agg #[.slice bl y.lv.length dl]] (Go.Sort.grow (redrawn wq d) os) fun e w' => e = .returned (.bool false) ∧ Below (Go.Sort.grow (redrawn wq d) os).heap.size (Go.Sort.grow (redrawn wq d) os) w') := hideP (fun d os => by have := specFlowsFor_any x.own ao co m2 x.lv y.lv al cl bl dl m1 n1 (Go.Sort.grow (redrawn wq d) os) (r2.below (below_regrown _ _ _)) (r1.below (below_regrown _ _ _)) (s1.below (below_regrown _ _ _)); rwa [tf] at this)
                  cases tf2 : flowsFor y.own x.lv y.lv
                  · have C2 : Hid (∀ d os, Calls Try.prog 69 #[.slice bo y.own.length do9, .agg #[.slice al x.lv.length cl], .agg #[.slice bl y.lv.length dl]] (Go.Sort.grow (redrawn wq d) os) fun e w' => e = .returned (.bool false) ∧ Below (Go.Sort.grow (redrawn wq d) os).heap.size (Go.Sort.grow (redrawn wq d) os) w') := hideP (fun d os => by have := specFlowsFor_any y.own bo do9 n2 x.lv y.lv al cl bl dl m1 n1 (Go.Sort.grow (redrawn wq d) os) (s2.below (below_regrown _ _ _)) (r1.below (below_regrown _ _ _)) (s1.below (below_regrown _ _ _)); rwa [tf2] at this)
                    have hmf : mayFlow true x y = false := by unfold mayFlow; rw [if_pos rfl, tf, tf2]; rfl
                    clear r1 r2 s1 s2 tf tf2
                    go_wp2
                    refine wp_region_quiet_below (by kernel_rfl) (by kernel_rfl) ?_
                    repeat (first | go_big_quiet_step ((first | (go_at_call 69; with_reducible exact Calls.regrown_of (C1.out _ _)) | (go_at_call 69; with_reducible exact Calls.regrown_of (C2.out _ _)))) | quiet_step ((first | (go_at_call 69; with_reducible exact Calls.regrown_of (C1.out _ _)) | (go_at_call 69; with_reducible exact Calls.regrown_of (C2.out _ _)))))
                    refine wpQuiet_nil ?_
                    intro _ hw'
                    obtain ⟨⟨dq, osq⟩, hw''⟩ := hw'
                    subst hw''
                    clear q_g0 q_g1 q_j0 q_j1 C1 C2 g0 g1 j0 j1
                    obtain ⟨wz, hwq⟩ : ∃ wz, wz = Go.Sort.grow (redrawn wq dq) osq := ⟨_, rfl⟩
                    have hbwz : Below wq.heap.size wq wz := hwq ▸ below_regrown _ dq osq
                    rw [← hwq]
                    clear hwq
                    have hacc := hideP (Acc.below hacc.out hbwz)
                    clear hbwz
                    have HX : Hid (xs = chRows true l k ++ chRow true l k (j + 1)) := hideP (by rw [hxs.out, chRow_succ, chPick_no hx hy hmf, List.append_nil])
                    clear hxs hx hy
                    go_wp2
                    go_roundg (gk - 1)
                    case measure => omega
                    case rel => exact ⟨j + 1, xs, by omega, by omega, by go_num, HX, hacc⟩
                  · have C2 : Hid (∀ d os, Calls Try.prog 69 #[.slice bo y.own.length do9, .agg #[.slice al x.lv.length cl], .agg #[.slice bl y.lv.length dl]] (Go.Sort.grow (redrawn wq d) os) fun e w' => e = .returned (.bool true) ∧ Below (Go.Sort.grow (redrawn wq d) os).heap.size (Go.Sort.grow (redrawn wq d) os) w') := hideP (fun d os => by have := specFlowsFor_any y.own bo do9 n2 x.lv y.lv al cl bl dl m1 n1 (Go.Sort.grow (redrawn wq d) os) (s2.below (below_regrown _ _ _)) (r1.below (below_regrown _ _ _)) (s1.below (below_regrown _ _ _)); rwa [tf2] at this)
                    have hmf : mayFlow true x y = true := by unfold mayFlow; rw [if_pos rfl, tf, tf2]; rfl
                    clear r1 r2 s1 s2 tf tf2
                    go_wp2
                    refine wp_region_quiet_below (by kernel_rfl) (by kernel_rfl) ?_
                    repeat (first | go_big_quiet_step ((first | (go_at_call 69; with_reducible exact Calls.regrown_of (C1.out _ _)) | (go_at_call 69; with_reducible exact Calls.regrown_of (C2.out _ _)))) | quiet_step ((first | (go_at_call 69; with_reducible exact Calls.regrown_of (C1.out _ _)) | (go_at_call 69; with_reducible exact Calls.regrown_of (C2.out _ _)))))
                    refine wpQuiet_nil ?_
                    intro _ hw'
                    obtain ⟨⟨dq, osq⟩, hw''⟩ := hw'
                    subst hw''
                    clear q_g0 q_g1 q_j0 q_j1 C1 C2 g0 g1 j0 j1
                    obtain ⟨wz, hwq⟩ : ∃ wz, wz = Go.Sort.grow (redrawn wq dq) osq := ⟨_, rfl⟩
                    have hbwz : Below wq.heap.size wq wz := hwq ▸ below_regrown _ dq osq
                    rw [← hwq]
                    clear hwq
                    have hacc := hideP (Acc.below hacc.out hbwz)
                    clear hbwz
                    have HX : Hid (xs ++ [⟨(k : Int), (j : Int)⟩] = chRows true l k ++ chRow true l k (j + 1)) := hideP (by rw [hxs.out, chRow_succ, chPick_yes hx hy hkj hmf, List.append_assoc])
                    have hxl : xs.length ≤ 20 := by rw [hxs.out, List.length_append]; have h1 := chRows_len true l k; have h2 := chRow_len true l k j; have h3 : k * l.length ≤ 3 * 3 := Nat.mul_le_mul (by omega) hl3; omega
                    clear hxs hx hy
                    go_wp2_with (at_builtin; refine wpList_append_rd _ rfl _ _ 24 rfl w.heap.size 52 i0 (.agg #[.int .i64 0, .int .i64 0]) 2 16 Try.underlying24 hi hz0 hz1 hz2 rfl (by decide) _ _ _ rfl (World.ownsRow.alloc hacc.out.1 _) _ _ _ (Chan.enc ⟨(k : Int), (j : Int)⟩) rfl ?c1 (rd_lit rfl) ?c2 ?c3 ?c4 ?c5 ?_)
                    case c1 => simp [Chan.enc]
                    case c2 => simp [Value.oneCell', Chan.enc]
                    case c3 => unfold maxLen; omega
                    case c4 => omega
                    case c5 => have := hacc.out.2.size; simp; omega
                    intro v9 w9 ho9 hg9
                    have HA9 : Hid (ChAcc w (xs ++ [⟨(k : Int), (j : Int)⟩]) v9 w9) := hideP (ChAcc.snoc ⟨ho9, (hacc.out.2.alloc hacc.out.2.size _).grown hg9 (by have := hacc.out.2.size; simp; omega) (fun q hq => (hacc.out.1.lt q hq).1)⟩)
                    clear ho9 hg9 hacc
                    go_wp2
                    go_roundg (gk - 1)
                    case measure => omega
                    case rel => exact ⟨j + 1, xs ++ [⟨(k : Int), (j : Int)⟩], by omega, by omega, by go_num, HX, HA9⟩
                · have q_g0 := fun d os => cell_regrown g0 d os
                  have q_g1 := fun d os => cell_regrown g1 d os
                  have q_j0 := fun d os => cell_regrown j0 d os
                  have q_j1 := fun d os => cell_regrown j1 d os
                  have C1 : Hid (∀ d os, Calls Try.prog 69 #[.slice ao x.own.length co, .agg #[.slice al x.lv.length cl], .agg #[.slice bl y.lv.length dl]] (Go.Sort.grow (redrawn wq d) os) fun e w' => e = .returned (.bool true) ∧ Below (Go.Sort.grow (redrawn wq d) os).heap.size (Go.Sort.grow (redrawn wq d) os) w') := hideP (fun d os => by have := specFlowsFor_any x.own ao co m2 x.lv y.lv al cl bl dl m1 n1 (Go.Sort.grow (redrawn wq d) os) (r2.below (below_regrown _ _ _)) (r1.below (below_regrown _ _ _)) (s1.below (below_regrown _ _ _)); rwa [tf] at this)
                  have hmf : mayFlow true x y = true := by unfold mayFlow; rw [if_pos rfl, tf]; rfl
                  clear r1 r2 s1 s2 tf
                  go_wp2
                  refine wp_region_quiet_below (by kernel_rfl) (by kernel_rfl) ?_
                  repeat (first | go_big_quiet_step ((first | (go_at_call 69; with_reducible exact Calls.regrown_of (C1.out _ _)))) | quiet_step ((first | (go_at_call 69; with_reducible exact Calls.regrown_of (C1.out _ _)))))
                  refine wpQuiet_nil ?_
                  intro _ hw'
                  obtain ⟨⟨dq, osq⟩, hw''⟩ := hw'
                  subst hw''
                  clear q_g0 q_g1 q_j0 q_j1 C1 g0 g1 j0 j1
                  obtain ⟨wz, hwq⟩ : ∃ wz, wz = Go.Sort.grow (redrawn wq dq) osq := ⟨_, rfl⟩
                  have hbwz : Below wq.heap.size wq wz := hwq ▸ below_regrown _ dq osq
                  rw [← hwq]
                  clear hwq
                  have hacc := hideP (Acc.below hacc.out hbwz)
                  clear hbwz
                  have HX : Hid (xs ++ [⟨(k : Int), (j : Int)⟩] = chRows true l k ++ chRow true l k (j + 1)) := hideP (by rw [hxs.out, chRow_succ, chPick_yes hx hy hkj hmf, List.append_assoc])
                  have hxl : xs.length ≤ 20 := by rw [hxs.out, List.length_append]; have h1 := chRows_len true l k; have h2 := chRow_len true l k j; have h3 : k * l.length ≤ 3 * 3 := Nat.mul_le_mul (by omega) hl3; omega
                  clear hxs hx hy
                  go_wp2_with (at_builtin; refine wpList_append_rd _ rfl _ _ 24 rfl w.heap.size 52 i0 (.agg #[.int .i64 0, .int .i64 0]) 2 16 Try.underlying24 hi hz0 hz1 hz2 rfl (by decide) _ _ _ rfl (World.ownsRow.alloc hacc.out.1 _) _ _ _ (Chan.enc ⟨(k : Int), (j : Int)⟩) rfl ?c1 (rd_lit rfl) ?c2 ?c3 ?c4 ?c5 ?_)
                  case c1 => simp [Chan.enc]
                  case c2 => simp [Value.oneCell', Chan.enc]
                  case c3 => unfold maxLen; omega
                  case c4 => omega
                  case c5 => have := hacc.out.2.size; simp; omega
                  intro v9 w9 ho9 hg9
                  have HA9 : Hid (ChAcc w (xs ++ [⟨(k : Int), (j : Int)⟩]) v9 w9) := hideP (ChAcc.snoc ⟨ho9, (hacc.out.2.alloc hacc.out.2.size _).grown hg9 (by have := hacc.out.2.size; simp; omega) (fun q hq => (hacc.out.1.lt q hq).1)⟩)
                  clear ho9 hg9 hacc
                  go_wp2
                  go_roundg (gk - 1)
                  case measure => omega
                  case rel => exact ⟨j + 1, xs ++ [⟨(k : Int), (j : Int)⟩], by omega, by omega, by go_num, HX, HA9⟩
          · have hjN : j = l.length := by omega
            have HA := hacc
            rw [hxs.out, hjN, ← chRows_succ] at HA
            have d1 : ¬ ((j : Int) < (l.length : Int)) := by omega
            clear hacc hxs hjN
            go_wp2
            go_roundg (gko - 1)
            case measure => omega
            case rel => exact ⟨k + 1, by omega, by omega, by go_num, HA⟩
      · have hkN : k = l.length := by omega
        have d1 : ¬ ((k : Int) < (l.length : Int)) := by omega
        have HA := hacc
        rw [hkN] at HA
        clear hacc hkN
        go_wp2
        go_ret
        rw [HN.out]
        exact Acc.ret HA.out

end Go.Proofs.Ytnchmenpgmlpdaa
