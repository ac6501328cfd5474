/- ReadEntry: the plain law. -/
import Derived.Test.YtamfgkicmikmbaaDoorSplitPure
import Derived.Test.YtamfgkicmikmbaaDoorReadDec
import Derived.Test.YtamfgkicmikmbaaDoorReadPure
import Derived.Test.YtamfgkicmikmbaaDoorEntry
import Derived.Test.YtamfgkicmikmbaaDoorRowsOwn
import Derived.Lib.SplitLaws
namespace Go.Proofs.YtamfgkicmikmbaaDoor
open Go.RowKit

def strV (p : List UInt8) : Value := .string ⟨p.toArray⟩
theorem strV_one (p : List UInt8) : (strV p).oneCell' = true := rfl
theorem cutS_len (c : UInt8) : ∀ l : List UInt8, (cutS c l).length ≤ l.length + 1
  | [] => by simp [cutS]
  | b :: l => by
    have h := cutS_len c l
    have h0 := cutS_ne c l
    have : 0 < (cutS c l).length := List.length_pos_iff.2 h0
    rw [cutS]
    split
    · simp; omega
    · simp; omega
theorem cutS_size (c : UInt8) : ∀ l : List UInt8, ∀ p ∈ cutS c l, p.length ≤ l.length
  | [], p, h => by simp [cutS] at h; subst h; simp
  | b :: l, p, h => by
    have ih := cutS_size c l
    have h0 := cutS_ne c l
    rw [cutS] at h
    split at h
    · rcases List.mem_cons.1 h with rfl | h
      · simp
      · have := ih p h; simp; omega
    · rcases List.mem_cons.1 h with rfl | h
      · cases hx : cutS c l with
        | nil => exact absurd hx h0
        | cons a r =>
          have := ih a (by rw [hx]; simp)
          simp; omega
      · have := ih p (List.mem_of_mem_tail h); simp; omega
/-- The nine numbers of an entry's text. -/
def Entry.of (l : List Int) : Entry := ⟨l.getD 0 0, l.getD 1 0, l.getD 2 0, l.getD 3 0, l.getD 4 0, l.getD 5 0, l.getD 6 0, l.getD 7 0, l.getD 8 0⟩
def decOk (p : List UInt8) : Bool := (readDec p).isSome
def decVal (p : List UInt8) : Int := (readDec p).getD 0
def decI (p : List UInt8) : Value := .int .i64 (decVal p)
def readEntry (l : List UInt8) : Option Entry := if (cutS 32 l).length = 9 ∧ (cutS 32 l).all decOk = true then some (Entry.of ((cutS 32 l).map decVal)) else none
def entNo : Entry := ⟨0, 0, 0, 0, 0, 0, 0, 0, 0⟩
def entRes (l : List UInt8) : Value := .tuple #[.agg ((readEntry l).getD entNo).cells, .bool (readEntry l).isSome]
theorem entRes_no {l : List UInt8} (h : (cutS 32 l).length ≠ 9 ∨ (cutS 32 l).all decOk = false) : entRes l = .tuple #[.agg #[.int .i64 0, .int .i64 0, .int .i64 0, .int .i64 0, .int .i64 0, .int .i64 0, .int .i64 0, .int .i64 0, .int .i64 0], .bool false] := by
  unfold entRes readEntry
  rw [if_neg (fun q => by
    rcases h with h | h
    · exact h q.1
    · rw [q.2] at h; cases h)]
  rfl
theorem entRes_yes {l : List UInt8} (h1 : (cutS 32 l).length = 9) (h2 : (cutS 32 l).all decOk = true) : entRes l = .tuple #[.agg (Entry.of ((cutS 32 l).map decVal)).cells, .bool true] := by
  unfold entRes readEntry
  rw [if_pos ⟨h1, h2⟩]
  rfl
theorem decRes_ok (p : List UInt8) : decRes p = .tuple #[.int .i64 (decVal p), .bool (decOk p)] := rfl
theorem take_all {α : Type} {f : α → Bool} {l : List α} {k : Nat} {x : α} (h : (l.take k).all f = true) (hx : l[k]? = some x) (hb : f x = true) : (l.take (k + 1)).all f = true := by
  rw [take_snoc hx, List.all_append, h]; simp [hb]
theorem mem_bad {α : Type} {f : α → Bool} {l : List α} {k : Nat} {x : α} (hx : l[k]? = some x) (hb : f x = false) : l.all f = false := by
  cases h : l.all f
  · rfl
  · rw [List.all_eq_true.1 h x (List.mem_of_getElem? hx)] at hb; cases hb
theorem splitB_cut (s : ByteArray) : (Lib.splitB ⟨#[32]⟩ 0 (Lib.countB s ⟨#[32]⟩) s).map Value.string = (cutS 32 s.data.toList).map strV := by
  have h := Lib.splitB_data ⟨#[32]⟩ 0 (Lib.countB s ⟨#[32]⟩) s
  have h2 : Lib.splitK [32] 0 (Lib.countB s ⟨#[32]⟩) s.data.toList = cutS 32 s.data.toList := splitK_cutS 32 s.data.toList
  rw [← h2, ← h, List.map_map]
  refine List.map_congr_left fun x _ => ?_
  show Value.string x = Value.string ⟨x.data.toList.toArray⟩
  rw [Array.toArray_toList]
theorem countB_cut (s : ByteArray) : Lib.countB s ⟨#[32]⟩ + 1 = (cutS 32 s.data.toList).length := by
  have h := congrArg List.length (splitB_cut s)
  rw [List.length_map, List.length_map, Lib.splitB_all _ (by decide) _ _ _ rfl] at h
  exact h
theorem strs_get {w : World} {base : Nat} {e : TypeId} {g n c : Nat} {l : List (List UInt8)} (h : w.ownsRow base e 1 (.slice (some ⟨g, 0, none⟩) n c) n (l.map strV)) {k : Nat} {x : List UInt8} (hx : l[k]? = some x) : w.cell? ⟨g, k, none⟩ = some (.string ⟨x.toArray⟩) := by
  have hk : k < n * 1 := by
    have := h.1
    rw [List.length_map] at this
    have := (List.getElem?_eq_some_iff.1 hx).1
    omega
  rw [h.cellAt k hk, List.getElem?_map, hx]
  rfl
theorem strs_at {w : World} {base : Nat} {e : TypeId} {v : Value} {n : Nat} {l : List Value} (h : w.ownsRow base e 1 v n l) (hn : 0 < n) : ∃ g c, v = .slice (some ⟨g, 0, none⟩) n c ∧ n ≤ c ∧ g < w.heap.size ∧ base ≤ g := by
  obtain ⟨_, h⟩ := h
  rcases h with ⟨_, h⟩ | ⟨g, cap, cur, hv, hb, hg, hc, _⟩
  · omega
  · exact ⟨g, cap, hv, hc, (Array.getElem?_eq_some_iff.1 hg).1, hb⟩
theorem nums_get {w : World} {base : Nat} {e : TypeId} {g n c : Nat} {l : List Int} (h : w.ownsRow base e 1 (.slice (some ⟨g, 0, none⟩) n c) n (l.map (Value.int .i64))) {k : Nat} (hk : k < n) : w.cell? ⟨g, k, none⟩ = some (.int .i64 (l.getD k 0)) := by
  have hl := h.1
  rw [List.length_map] at hl
  rw [h.cellAt k (by omega), List.getElem?_map, List.getElem?_eq_getElem (by omega)]
  simp [List.getD_eq_getElem?_getD, List.getElem?_eq_getElem (show k < l.length by omega)]
theorem Tryd.infoIntE : (Tryd.prog.info? 3).map (fun i => (i.zero, i.size, i.bytes)) = some (some (.int .i64 0), 1, 8) := by kernel_rfl

end Go.Proofs.YtamfgkicmikmbaaDoor
