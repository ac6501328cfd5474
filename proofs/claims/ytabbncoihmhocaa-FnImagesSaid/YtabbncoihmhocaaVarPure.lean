/- The Var of a number, as bytes; plain laws. -/
import Derived.Test.YtabbncoihmhocaaBase
import Derived.Laws.IdiomStrings
import Derived.Laws.Concat
namespace Go.Proofs.Ytabbncoihmhocaa
open Go.RowKit

def bcells (l : List UInt8) : List Value := l.map fun b => Value.int .u8 (b.toNat : Int)
theorem bcells_length (l : List UInt8) : (bcells l).length = l.length := by simp [bcells]
theorem bcells_append (a b : List UInt8) : bcells (a ++ b) = bcells a ++ bcells b := by simp [bcells]
theorem bcells_one {v : Int} (h : 0 ≤ v ∧ v ≤ 255) : bcells [UInt8.ofNat v.toNat] = [.int .u8 v] := by
  have : ((UInt8.ofNat v.toNat).toNat : Int) = v := by
    rw [UInt8.toNat_ofNat', Nat.mod_eq_of_lt (by omega)]
    omega
  simp only [bcells, List.map_cons, List.map_nil, this]
def Str (l : List UInt8) : Value := .string ⟨l.toArray⟩
theorem str_append (a b : List UInt8) : Value.string (ByteArray.mk a.toArray ++ ByteArray.mk b.toArray) = .string ⟨(a ++ b).toArray⟩ := by rw [ByteArray.mk_append_mk]

def varN : Nat → Nat → List UInt8
  | 0, _ => []
  | f + 1, n => if n < 128 then [UInt8.ofNat n] else UInt8.ofNat (n % 128 + 128) :: varN f (n / 128)
def varL (n : Nat) : List UInt8 := varN 8 n
def varS (n : Int) : List UInt8 := if inB n 0 562949953421311 = true then varL n.toNat else []
theorem varN_len : ∀ (f n : Nat), (varN f n).length ≤ f
  | 0, _ => by simp [varN]
  | f + 1, n => by rw [varN]; split <;> simp [varN_len f]
theorem varS_len (n : Int) : (varS n).length ≤ 8 := by unfold varS varL; split <;> simp [varN_len]
theorem varN_lt {f n : Nat} (h : n < 128) : varN (f + 1) n = [UInt8.ofNat n] := by rw [varN, if_pos h]
theorem varN_ge {f n : Nat} (h : ¬ n < 128) : varN (f + 1) n = UInt8.ofNat (n % 128 + 128) :: varN f (n / 128) := by rw [varN, if_neg h]

/-- []byte to string, of what the call itself has made. -/
theorem conv_own {P : Program} {w : World} {src dst e : TypeId} {base : Nat} {E : TypeId} {g n c : Nat} {l : List UInt8} (hs : P.underlying src = some (.slice e)) (he : P.underlying e = some (.int .u8)) (hd : P.underlying dst = some .string)
    (h : w.ownsRow base E 1 (.slice (some ⟨g, 0, none⟩) n c) n (bcells l)) : (convert src dst (.slice (some ⟨g, 0, none⟩) n c)).run P w = .ok (.string ⟨l.toArray⟩) w := by
  have hn : n = l.length := by have := h.1; rw [bcells_length] at this; omega
  subst hn
  refine run_convert_bytes_back w src dst e _ c l hs he hd fun j hj => ?_
  have : (⟨g, 0, none⟩ : Addr).add j = ⟨g, j, none⟩ := by simp [Addr.add]; omega
  rw [this, h.cellAt j (by omega)]
  simp [bcells, hj]

theorem and127 (n : Int) (h : 0 ≤ n ∧ n < 2 ^ 63) : bits .and .i64 n 127 = n % 128 := by
  have := bits_mask .i64 63 (by decide) (fun n h0 h1 => by rw [IntKind.wrap_i64]; omega) 7 (by decide) n h.1 h.2
  simpa using this
theorem or128 (n : Int) (h : 0 ≤ n ∧ n < 128) : bits .or .i64 n 128 = n + 128 := by
  have hc : bits .or .i64 n 128 = bits .or .i64 128 n := by simp only [bits, BitVec.or_comm]
  rw [hc, bits_join .i64 63 (by decide) (fun n h0 h1 => by rw [IntKind.wrap_i64]; omega) 7 128 n (by decide) (by decide) (by decide) h.1 h.2 (by omega)]
  omega
end Go.Proofs.Ytabbncoihmhocaa
