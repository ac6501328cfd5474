/- The walk of l23Vars. -/
import Derived.Test.YtnchmenpgmlpdaaReadVarS
import Derived.Test.YtnchmenpgmlpdaaSeqPure
import Derived.Test.YtnchmenpgmlpdaaKeep
namespace Go.Proofs.Ytnchmenpgmlpdaa
open Go.RowKit

theorem Try.infoI : (Try.prog.info? 3).map (fun i => (i.zero, i.size, i.bytes)) = some (some (.int .i64 0), 1, 8) := by kernel_rfl
def icells (ns : List Nat) : List Value := ns.map fun (n : Nat) => Value.int .i64 (n : Int)
theorem icells_eq (ns : List Nat) : icells ns = (ints ns).map (Value.int .i64) := by simp [icells, ints]
/-- What l23Vars hands back. -/
def VarsRet (w : World) (s : ByteArray) (a m : Nat) (e : Ending) (w' : World) : Prop :=
  match seqGo ((bl s).drop a) m with
  | some (ns, k) => ∃ v, e = .returned (.tuple #[v, .int .i64 ((a + k : Nat) : Int)]) ∧ w'.ownsRow w.heap.size 3 1 v m (icells ns) ∧ Below w.heap.size w w'
  | none => ∃ v xs, e = .returned (.tuple #[v, .int .i64 (-1)]) ∧ w'.ownsRow w.heap.size 3 1 v m xs ∧ Below w.heap.size w w'
theorem VarsRet.yes {w w' : World} {s : ByteArray} {a m k : Nat} {ns : List Nat} {v : Value} (h : seqGo ((bl s).drop a) m = some (ns, k)) (hA : Acc w 3 1 m (icells ns) v w') {x : Int} (hx : x = ((a + k : Nat) : Int)) : VarsRet w s a m (.returned (.tuple #[v, .int .i64 x])) w' := by
  unfold VarsRet
  rw [h]
  subst hx
  exact ⟨v, rfl, hA.1, hA.2⟩
theorem VarsRet.no {w w' : World} {s : ByteArray} {a m : Nat} {v : Value} {xs : List Value} (h : seqGo ((bl s).drop a) m = none) (hA : Acc w 3 1 m xs v w') : VarsRet w s a m (.returned (.tuple #[v, .int .i64 (-1)])) w' := by
  unfold VarsRet
  rw [h]
  exact ⟨v, xs, rfl, hA.1, hA.2⟩
set_option maxRecDepth 100000 in
set_option maxHeartbeats 2000000 in
theorem l23Vars_any (s : ByteArray) (a m : Nat) (hs : s.size ≤ maxLen) (ha : a ≤ s.size) (hm : m ≤ 100) (w : World) :
    Calls Try.prog 96 #[.string s, .int .i64 (a : Int), .int .i64 (m : Int)] w (VarsRet w s a m) := by
  unfold maxLen at hs
  obtain ⟨i0, hi, hz0, hz1, hz2⟩ := info_parts Try.infoI
  go_enter Try.func96, Try.ntmps96
  go_wp2
  go_loopg [1, 8, 9] (m + 1) (fun gk av v iv wr => ∃ (k b : Nat) (ns : List Nat), m < gk + k ∧ k ≤ m ∧ iv = .int .i64 (k : Int) ∧ av = .int .i64 ((a + b : Nat) : Int) ∧ a + b ≤ s.size ∧ Hid (seqGo ((bl s).drop a) k = some (ns, b)) ∧ Hid (Acc w 3 1 k (icells ns) v wr))
  case atStart => exact ⟨0, 0, [], by omega, by omega, rfl, rfl, by omega, hideP rfl, hideP (Acc.nil (Below.refl _ _) rfl)⟩
  case round =>
    obtain ⟨k, b, ns, hgk, hk, rfl, rfl, hab, hsq, hacc⟩ := hrel
    by_cases hlt : k < m
    · have hai : ((a + b : Nat) : Int) ≤ (s.size : Int) := by omega
      obtain ⟨p, hp⟩ : ∃ p, readVar (((bl s).drop a).drop b) = p := ⟨_, rfl⟩
      have HP := Lib.hid hp
      have HV : Hid (∀ W, Calls Try.prog 146 #[.string (s.extract (a + b) s.size)] W fun e w' => e = .returned (.tuple #[.int .i64 (p.1 : Int), .int .i64 (p.2 : Int)]) ∧ Below W.heap.size W w') := hideP (fun W => by
        have := specReadVar_any (s.extract (a + b) s.size) (by unfold maxLen; rw [ByteArray.size_extract]; omega) W
        rwa [bl_from, ← List.drop_drop, hp] at this)
      have hle := readVar_le (((bl s).drop a).drop b)
      rw [hp] at hle
      obtain ⟨hle1, hle2⟩ := hle
      rw [List.length_drop, List.length_drop, bl_length] at hle1
      unfold inVar at hle2
      clear hp
      have ka : ((a + b : Nat) : Int).toNat = a + b := by omega
      have k0 : (0 : Int) ≤ ((a + b : Nat) : Int) := by omega
      go_wp2_with fail
      refine (HV.out _).mono ?_
      rintro e w2 ⟨rfl, hb2⟩
      have hacc2 := hideP (hacc.out.below hb2)
      by_cases hz : p.2 = 0
      · have d1 : ((p.2 : Int) == 0) = true := by simp [hz]
        have HN := Lib.hid (seqGo_none (seqGo_stop hsq.out (by rw [HP.out]; exact hz)) (show k + 1 ≤ m by omega))
        have HB2 := hideP hacc2.out.2
        clear hz
        go_wp2_with (at_make; refine wpList_make_full _ rfl _ _ 39 rfl w2.heap.size 3 i0 (.int .i64 0) 1 Try.underlying39 hi hz0 hz1 .i64 .i64 _ _ m rfl rfl rfl rfl ?c1 ?c2 (Nat.le_refl _) ?_)
        case c1 => rw [hz2]; omega
        case c2 => unfold maxLen; omega
        intro w3 hown hg
        have hb3 := (Below.refl w2.heap.size w2).grown hg (Nat.le_refl _) (by simp)
        have HA := hideP (Acc.of HB2.out hown hb3)
        clear hown hg
        go_wp2
        go_ret2
        exact VarsRet.no HN.out HA.out
      · have d1 : ((p.2 : Int) == 0) = false := by simp; omega
        have hon := seqGo_on hsq.out (by rw [HP.out]; exact hz)
        rw [HP.out] at hon
        have HN := Lib.hid hon
        clear hz hon
        go_wp2_with (at_builtin; refine wpList_append_acc (w0 := w) rfl _ _ 39 rfl 3 i0 (.int .i64 0) 1 8 Try.underlying39 hi hz0 hz1 hz2 rfl (by decide) _ _ _ rfl (Acc.alloc hacc2.out _) _ 1 1 [.int .i64 (p.1 : Int)] rfl rfl (rd_lit rfl) ?c1 ?c2 ?c3 ?_)
        case c1 => simp [Value.oneCell']
        case c2 => unfold maxLen; omega
        case c3 => omega
        intro v' w3 h3 _
        have HA : Hid (Acc w 3 1 (k + 1) (icells (ns ++ [p.1])) v' w3) := hideP (by unfold icells at h3 ⊢; rw [List.map_append]; exact h3)
        clear h3
        go_wp2
        go_roundg (gk - 1)
        case measure => omega
        case rel => exact ⟨k + 1, b + p.2, _, by omega, by omega, by go_num, by go_num, by omega, HN, HA⟩
    · have hkm : k = m := by omega
      subst hkm
      go_wp2
      go_ret2
      exact VarsRet.yes hsq.out hacc.out rfl

end Go.Proofs.Ytnchmenpgmlpdaa
