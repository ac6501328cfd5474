/- Dec of both sides. -/
import Derived.Test.YtamfgkicmikmbaaDoorDoorShelf
import Derived.Test.YtamfgkicmikmbaaDoorSmall
import Derived.Test.YtamfgkicmikmbaaDoorVarPure
import Derived.Test.YtamfgkicmikmbaaDoorApp
import Derived.Deep.LoopGhost
import Derived.Lib.ItoaNum
import Derived.Lib.ItoaLen
namespace Go.Proofs.YtamfgkicmikmbaaDoor
open Go.RowKit

theorem tab_below {P : Program} {w w' : World} {nm : String} {k : IntKind} {zs : List Int} (h : Lib.TabIs P w nm k zs) (hb : Below w.heap.size w w') : Lib.TabIs P w' nm k zs := by
  unfold Lib.TabIs World.var? at h ⊢
  cases hg : P.globalNamed nm with
  | none => rw [hg] at h; simp at h
  | some g =>
    rw [hg] at h
    simp only [Option.bind_some] at h ⊢
    have hlt : g < w.heap.size := by
      rcases Nat.lt_or_ge g w.heap.size with h' | h'
      · exact h'
      · rw [Array.getElem?_eq_none h'] at h; cases h
    rw [hb.block g hlt]
    exact h
theorem below_grow (w : World) (k : Nat) (os : Array Obj) : Below w.heap.size w (Go.Sort.grow (w.drewN k) os) :=
  ⟨rfl, rfl, rfl, by simp [Go.Sort.grow], fun q hq => by
    show (w.heap ++ os)[q]? = w.heap[q]?
    rw [Array.getElem?_append_left hq]⟩
theorem implDec_any (n : Int) (h0 : -9223372036854775808 ≤ n) (h1 : n ≤ 9223372036854775807) (w : World) (ht : Lib.TabIs Tryd.prog w "internal/strconv.uint64pow10" .u64 Lib.pow10Tab) :
    Calls Tryd.prog 37 #[.int .i64 n] w fun e w' => e = .returned (.string ⟨(Lib.itoa n).toArray⟩) ∧ Below w.heap.size w w' := by
  have HT := hideP ht
  clear ht
  go_enter Tryd.func37, Tryd.ntmps37
  go_wp2_with fail
  refine (Tryd.strconv_Itoa n h0 h1 _ HT.out).mono ?_
  rintro e w1 ⟨rfl, k, os, rfl⟩
  have HB := hideP (below_grow w k os)
  go_wp2
  go_ret
  exact ⟨rfl, HB.out⟩
/-- What is left of a number's digits. -/
def decLeft (v : Nat) (acc : List UInt8) : List UInt8 := if v = 0 then acc else Lib.decDigits v ++ acc
theorem decLeft_step {v : Nat} {acc : List UInt8} (h : v ≠ 0) : decLeft v acc = decLeft (v / 10) (UInt8.ofNat (48 + v % 10) :: acc) := by
  unfold decLeft
  rw [if_neg h, Lib.decDigits]
  by_cases h10 : v < 10
  · rw [dif_pos h10, if_pos (by omega), show v % 10 = v by omega]
    rfl
  · rw [dif_neg h10, if_neg (by omega)]
    simp
theorem decLeft_len {u v : Nat} {acc : List UInt8} (h : decLeft v acc = Lib.decDigits u) (hu : u < 18446744073709551616) : acc.length ≤ 20 := by
  have h1 := congrArg List.length h
  rw [Lib.decDigits_length] at h1
  have h2 := Lib.nDigits_le20 u hu
  unfold decLeft at h1
  split at h1
  · omega
  · rw [List.length_append] at h1; omega
theorem str_cons (m : Nat) (acc : List UInt8) : Value.string (({ data := #[48 + UInt8.ofNat m] } : ByteArray) ++ ({ data := acc.toArray } : ByteArray)) = Value.string ⟨(UInt8.ofNat (48 + m) :: acc).toArray⟩ := by
  have : (({ data := #[48 + UInt8.ofNat m] } : ByteArray) ++ ({ data := acc.toArray } : ByteArray)) = ⟨(UInt8.ofNat (48 + m) :: acc).toArray⟩ := by
    apply ByteArray.ext
    simp [ByteArray.data_append, UInt8.ofNat_add]
  rw [this]
theorem u8_str (m : Nat) (h : m < 256) : (UInt8.ofNat m).toNat = m := by
  rw [UInt8.toNat_ofNat', Nat.mod_eq_of_lt (by omega)]
theorem conv_one (w : World) (X : Int) (m : Nat) (hm : m < 256) (hX : X = (m : Int)) : (convert 69 9 (.slice (some ⟨w.heap.size, 0, none⟩) 1 1)).run Tryd.prog (w.alloc (.cells #[.int .u8 X] 5)) = .ok (.string ⟨[UInt8.ofNat m].toArray⟩) (w.alloc (.cells #[.int .u8 X] 5)) := by
  subst hX
  have ho : (w.alloc (.cells #[.int .u8 (m : Int)] 5)).ownsRow w.heap.size 5 1 (.slice (some ⟨w.heap.size, 0, none⟩) 1 1) 1 (bcells [UInt8.ofNat m]) := owns_lit (Nat.le_refl _) rfl (by decide) rfl (by simp [bcells, u8_str m hm])
  exact conv_own (P := Tryd.prog) (src := 69) (dst := 9) Tryd.underlying69 Tryd.underlying5 Tryd.underlying9 ho
set_option maxRecDepth 100000 in
set_option maxHeartbeats 4000000 in
theorem specDec_any (n : Int) (h0 : -999999999 ≤ n) (h1 : n ≤ 999999999) (w : World) : Calls Tryd.prog 33 #[.int .i64 n] w fun e w' => e = .returned (.string ⟨(Lib.itoa n).toArray⟩) ∧ Below w.heap.size w w' := by
  obtain rfl | ⟨u, hu, rfl⟩ | ⟨u, hu, rfl⟩ : n = 0 ∨ (∃ u : Nat, 0 < u ∧ n = (u : Int)) ∨ (∃ u : Nat, 0 < u ∧ n = -(u : Int)) := by
    rcases Int.lt_trichotomy n 0 with h | h | h
    · exact .inr (.inr ⟨n.natAbs, by omega, by omega⟩)
    · exact .inl h
    · exact .inr (.inl ⟨n.toNat, by omega, by omega⟩)
  · have hI : Lib.itoa 0 = [48] := by simp [Lib.itoa, Lib.decDigits_one (i := 0) (by omega)]
    have HI := hideP hI
    clear hI
    go_enter Tryd.func33, Tryd.ntmps33
    go_wp2
    go_ret
    exact ⟨by rw [HI.out]; rfl, Below.refl _ _⟩
  · have hu9 : u ≤ 999999999 := by omega
    have D0 : ((u : Int) == 0) = false := by simp; omega
    go_enter Tryd.func33, Tryd.ntmps33
    have D2 : ¬ (((u : Int)) < 0) := by omega
    go_wp2
    go_loopg [0, 3] (u + 1) (fun gk nv sv wr => ∃ (v : Nat) (acc : List UInt8), v < gk ∧ v ≤ 1000000000 ∧ nv = .int .i64 (v : Int) ∧ sv = .string ⟨acc.toArray⟩ ∧ Hid (decLeft v acc = Lib.decDigits u) ∧ Hid (Below w.heap.size w wr))
    case atStart => exact ⟨u, [], by omega, by omega, rfl, rfl, hideP (by unfold decLeft; rw [if_neg (by omega)]; simp), hideP (Below.refl _ _)⟩
    case round =>
      obtain ⟨v, acc, hgk, hv, rfl, rfl, HV, HB⟩ := hrel
      have hal := decLeft_len HV.out (by omega)
      by_cases hz : v = 0
      · subst hz
        have HE : Hid (acc = Lib.decDigits u) := hideP (by have := HV.out; unfold decLeft at this; rwa [if_pos rfl] at this)
        have HI : Hid (Lib.itoa ((u : Int)) = Lib.decDigits u) := hideP (by unfold Lib.itoa; rw [if_neg (by omega)]; rfl)
        go_wp2
        go_ret
        exact ⟨by rw [HI.out, ← HE.out]; rfl, HB.out⟩
      · have HV2 := hideP ((decLeft_step hz).symm.trans HV.out)
        have dz : ((v : Int) == 0) = false := by simp; omega
        have k0 : (0 : Int) ≤ (v : Int) % 10 := by omega
        have k1 : (v : Int) % 10 < 10 := by omega
        have HB2 := hideP (HB.out.alloc HB.out.size (.cells #[.int .u8 (48 + (v : Int) % 10)] 5))
        have HC := conv_one wr (48 + (v : Int) % 10) (48 + v % 10) (by omega) (by omega)
        go_wp2
        go_roundg (gk - 1)
        case measure => omega
        case rel => exact ⟨v / 10, UInt8.ofNat (48 + v % 10) :: acc, by omega, by omega, by go_num, str_cons _ _, HV2, HB2⟩
  · have hu9 : u ≤ 999999999 := by omega
    have D0 : ((-(u : Int)) == 0) = false := by simp; omega
    go_enter Tryd.func33, Tryd.ntmps33
    have D2 : ((-(u : Int)) < 0) := by omega
    go_wp2
    go_loopg [0, 3] (u + 1) (fun gk nv sv wr => ∃ (v : Nat) (acc : List UInt8), v < gk ∧ v ≤ 1000000000 ∧ nv = .int .i64 (-(v : Int)) ∧ sv = .string ⟨acc.toArray⟩ ∧ Hid (decLeft v acc = Lib.decDigits u) ∧ Hid (Below w.heap.size w wr))
    case atStart => exact ⟨u, [], by omega, by omega, rfl, rfl, hideP (by unfold decLeft; rw [if_neg (by omega)]; simp), hideP (Below.refl _ _)⟩
    case round =>
      obtain ⟨v, acc, hgk, hv, rfl, rfl, HV, HB⟩ := hrel
      have hal := decLeft_len HV.out (by omega)
      by_cases hz : v = 0
      · subst hz
        have HE : Hid (acc = Lib.decDigits u) := hideP (by have := HV.out; unfold decLeft at this; rwa [if_pos rfl] at this)
        have HI : Hid (Lib.itoa (-(u : Int)) = 45 :: Lib.decDigits u) := hideP (by unfold Lib.itoa; rw [if_pos (by omega)]; congr 2; omega)
        go_wp2
        go_ret
        exact ⟨by rw [HI.out, ← HE.out]; rfl, HB.out⟩
      · have HV2 := hideP ((decLeft_step hz).symm.trans HV.out)
        have dz : ((-(v : Int)) == 0) = false := by simp; omega
        have k0 : (0 : Int) ≤ (v : Int) % 10 := by omega
        have k1 : (v : Int) % 10 < 10 := by omega
        have HB2 := hideP (HB.out.alloc HB.out.size (.cells #[.int .u8 (48 + (v : Int) % 10)] 5))
        by_cases hp : 0 < (v : Int) % 10
        · have HC := conv_one wr (48 + (v : Int) % 10) (48 + v % 10) (by omega) (by omega)
          go_wp2
          go_roundg (gk - 1)
          case measure => omega
          case rel => exact ⟨v / 10, UInt8.ofNat (48 + v % 10) :: acc, by omega, by omega, by go_num, str_cons _ _, HV2, HB2⟩
        · have HC := conv_one wr (48 + -((v : Int) % 10)) (48 + v % 10) (by omega) (by omega)
          go_wp2
          go_roundg (gk - 1)
          case measure => omega
          case rel => exact ⟨v / 10, UInt8.ofNat (48 + v % 10) :: acc, by omega, by omega, by go_num, str_cons _ _, HV2, hideP (HB.out.alloc HB.out.size _)⟩

end Go.Proofs.YtamfgkicmikmbaaDoor
