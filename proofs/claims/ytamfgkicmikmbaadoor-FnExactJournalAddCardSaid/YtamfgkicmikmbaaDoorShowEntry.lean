/- ShowEntry: the plain law; the program's side. -/
import Derived.Test.YtamfgkicmikmbaaDoorDec
import Derived.Test.YtamfgkicmikmbaaDoorEntry
import Derived.Test.YtamfgkicmikmbaaDoorRowsOwn
import Derived.Deep.LoopGhost
import Derived.Lib.JoinLaws
namespace Go.Proofs.YtamfgkicmikmbaaDoor
open Go.RowKit

def showEntry (x : Entry) : List UInt8 := if entryOk x = true then Lib.join (x.nums.map Lib.itoa) [32] else []
def decB (n : Int) : ByteArray := ⟨(Lib.itoa n).toArray⟩
def decV (n : Int) : Value := .string (decB n)
theorem Tryd.infoStr : (Tryd.prog.info? 9).map (fun i => (i.zero, i.size, i.bytes)) = some (some (.string ⟨#[]⟩), 1, 16) := by kernel_rfl
theorem entry_in {x : Entry} (h : entryOk x = true) : ∀ n ∈ x.nums, -999999999 ≤ n ∧ n ≤ 999999999 := by
  intro n hn
  have := List.all_eq_true.1 h n hn
  exact inB_true.1 this
theorem joinTail_len : ∀ (r : List (List UInt8)), (∀ y ∈ r, y.length ≤ 21) → (Lib.joinTail [32] r).length ≤ 22 * r.length
  | [], _ => by simp [Lib.joinTail]
  | y :: r, h => by
    have h1 := joinTail_len r (fun z hz => h z (List.mem_cons_of_mem _ hz))
    have h2 := h y (List.mem_cons_self ..)
    unfold Lib.joinTail at h1 ⊢
    simp only [List.map_cons, List.flatten_cons, List.length_append, List.length_cons, List.length_nil] at h1 ⊢
    omega
theorem join_len {l : List (List UInt8)} (h : ∀ y ∈ l, y.length ≤ 21) : (Lib.join l [32]).length ≤ 22 * l.length := by
  cases l with
  | nil => simp [Lib.join_nil]
  | cons y r =>
    rw [Lib.join_cons, List.length_append]
    have h1 := joinTail_len r (fun z hz => h z (List.mem_cons_of_mem _ hz))
    have h2 := h y (List.mem_cons_self ..)
    simp only [List.length_cons]
    omega
theorem join_snoc {l : List (List UInt8)} (y : List UInt8) (h : l ≠ []) : Lib.join (l ++ [y]) [32] = Lib.join l [32] ++ 32 :: y := by
  cases l with
  | nil => exact absurd rfl h
  | cons x r =>
    rw [List.cons_append, Lib.join_cons, Lib.join_cons]
    simp [Lib.joinTail]
theorem itoas_len {l : List Int} (h : ∀ n ∈ l, -999999999 ≤ n ∧ n ≤ 999999999) : ∀ y ∈ l.map Lib.itoa, y.length ≤ 21 := by
  intro y hy
  obtain ⟨n, hn, rfl⟩ := List.mem_map.1 hy
  have := h n hn
  exact Lib.itoa_length_le n (by omega) (by omega)
theorem str_join (acc d : List UInt8) : Value.string ((({ data := acc.toArray } : ByteArray) ++ ({ data := #[32] } : ByteArray)) ++ ({ data := d.toArray } : ByteArray)) = Value.string ⟨(acc ++ 32 :: d).toArray⟩ := by
  have : ((({ data := acc.toArray } : ByteArray) ++ ({ data := #[32] } : ByteArray)) ++ ({ data := d.toArray } : ByteArray)) = ⟨(acc ++ 32 :: d).toArray⟩ := by
    apply ByteArray.ext
    simp [ByteArray.data_append]
  rw [this]
theorem rowE_ne {w : World} {base base' s s' n n' : Nat} {e e' : TypeId} {v v' : Value} {xs xs' : List Value} (ho : w.ownsRow base e s v n xs) (ho' : w.ownsRow base' e' s' v' n' xs') (hT : e' ≠ e) : ∀ q, v.ownBlock = some q → v'.ownBlock = some q → False := by
  intro q hq hq'
  obtain ⟨_, h1⟩ := ho
  obtain ⟨_, h2⟩ := ho'
  rcases h1 with ⟨rfl, _⟩ | ⟨b, cap, cur, rfl, _, hg, _⟩
  · cases hq
  rcases h2 with ⟨rfl, _⟩ | ⟨b', cap', cur', rfl, _, hg', _⟩
  · cases hq'
  obtain rfl : b = q := by simpa [Value.ownBlock] using hq
  obtain rfl : b' = b := by simpa [Value.ownBlock] using hq'
  have h9 := Option.some.inj (hg.symm.trans hg')
  injection h9 with _ h10 _
  exact hT h10.symm
set_option maxRecDepth 100000 in
set_option maxHeartbeats 4000000 in
theorem implShowEntry_any (x : Entry) (w : World) (ht : Lib.TabIs Tryd.prog w "internal/strconv.uint64pow10" .u64 Lib.pow10Tab) :
    Calls Tryd.prog 29 #[.agg x.cells] w fun e w' => e = .returned (.string ⟨(showEntry x).toArray⟩) ∧ Below w.heap.size w w' := by
  obtain ⟨i0, hi, hz0, hz1, hz2⟩ := info_parts Tryd.infoStr
  have HT := hideP ht
  have HB := hideP (below_a1 w (.cells x.cells 25))
  clear ht
  go_enter Tryd.func29, Tryd.ntmps29
  unfold Entry.cells
  go_wp2_with fail
  refine (implEntryOk_any x _).mono ?_
  rintro e w1 ⟨rfl, hb1⟩
  obtain ⟨bc1, bf1⟩ := bcell hb1
  have HB1 := hideP (HB.out.trans (hb1.mono HB.out.size))
  have B0 := hideP ((Blk.new w x.cells 25).below hb1)
  cases tok : entryOk x
  · have HS : Hid (showEntry x = []) := hideP (by unfold showEntry; rw [tok]; rfl)
    clear tok
    go_wp2
    go_ret
    exact ⟨by rw [HS.out]; rfl, HB1.out⟩
  · have HS : Hid (showEntry x = Lib.join (x.nums.map Lib.itoa) [32]) := hideP (by unfold showEntry; rw [tok]; rfl)
    have HIN := hideP (entry_in tok)
    have hz1w : w.heap.size + 1 ≤ w1.heap.size := by have := hb1.size; simp at this; omega
    clear tok
    have e0 : (w1.alloc (.cells #[] 9)).cell? ⟨w.heap.size, 0, none⟩ = some (.int .i64 x.k) := ((B0.out.alloc _).cell 0).trans rfl
    have e1 : (w1.alloc (.cells #[] 9)).cell? ⟨w.heap.size, 1, none⟩ = some (.int .i64 x.p) := ((B0.out.alloc _).cell 1).trans rfl
    have e2 : (w1.alloc (.cells #[] 9)).cell? ⟨w.heap.size, 2, none⟩ = some (.int .i64 x.t) := ((B0.out.alloc _).cell 2).trans rfl
    have e3 : (w1.alloc (.cells #[] 9)).cell? ⟨w.heap.size, 3, none⟩ = some (.int .i64 x.ck) := ((B0.out.alloc _).cell 3).trans rfl
    have e4 : (w1.alloc (.cells #[] 9)).cell? ⟨w.heap.size, 4, none⟩ = some (.int .i64 x.ca) := ((B0.out.alloc _).cell 4).trans rfl
    have e5 : (w1.alloc (.cells #[] 9)).cell? ⟨w.heap.size, 5, none⟩ = some (.int .i64 x.cb) := ((B0.out.alloc _).cell 5).trans rfl
    have e6 : (w1.alloc (.cells #[] 9)).cell? ⟨w.heap.size, 6, none⟩ = some (.int .i64 x.cc) := ((B0.out.alloc _).cell 6).trans rfl
    have e7 : (w1.alloc (.cells #[] 9)).cell? ⟨w.heap.size, 7, none⟩ = some (.int .i64 x.cd) := ((B0.out.alloc _).cell 7).trans rfl
    have e8 : (w1.alloc (.cells #[] 9)).cell? ⟨w.heap.size, 8, none⟩ = some (.int .i64 x.ce) := ((B0.out.alloc _).cell 8).trans rfl
    go_wp2_with fail
    refine (numbersOf_any x _).mono ?_
    rintro e w2 ⟨nb, rfl, ho2, hb2⟩
    have hz2w : w1.heap.size + 1 ≤ w2.heap.size := by have := hb2.size; simp at this; omega
    have HN := hideP (owns_mono ho2 (base' := w.heap.size) (by simp; omega))
    have HO : Hid (w2.ownsRow w.heap.size 9 1 (.slice (some ⟨w1.heap.size, 0, none⟩) 0 0) 0 ((x.nums.take 0).map decV)) := hideP (owns_below (owns_lit (by omega) rfl (by decide) rfl rfl) (Nat.le_refl _) hb2)
    have HB2 := hideP (HB1.out.trans (((below_a1 w1 (.cells #[] 9)).trans (hb2.mono (by simp))).mono HB1.out.size))
    clear ho2 hb2 bc1 bf1 hb1 e0 e1 e2 e3 e4 e5 e6 e7 e8 B0
    go_wp2
    go_loopg [3, 13] 10 (fun gk sv iv wr => ∃ (k : Nat) (p : Option Addr) (c : Nat), 9 < gk + k ∧ k ≤ 9 ∧ iv = .int .i64 (k : Int) ∧ sv = .slice p k c ∧ Hid (wr.ownsRow w.heap.size 9 1 (.slice p k c) k ((x.nums.take k).map decV)) ∧ Hid (wr.ownsRow w.heap.size 3 1 (.slice (some ⟨nb, 0, none⟩) 9 9) 9 (x.nums.map (Value.int .i64))) ∧ Hid (Below w.heap.size w wr))
    case atStart => exact ⟨0, _, _, by omega, by omega, rfl, rfl, HO, HN, HB2⟩
    case round =>
      clear HO HN HB2 HB1 HB
      obtain ⟨k, p, c, hgk, hk, rfl, rfl, HO, HN, HB⟩ := hrel
      by_cases hlt : k < 9
      · obtain ⟨n, hn⟩ := some_at (l := x.nums) (k := k) hlt
        have g1 := (rd_of_owns HN.out).num hn
        have hn9 := HIN.out n (List.mem_of_getElem? hn)
        have HTK : Hid ((x.nums.take (k + 1)).map decV = (x.nums.take k).map decV ++ [decV n]) := hideP (by rw [take_snoc hn]; simp)
        have k1 : (k : Int) < 9 := by omega
        clear hn
        go_wp2_with fail
        refine (implDec_any n (by omega) (by omega) _ (tab_below HT.out HB.out)).mono ?_
        rintro e w3 ⟨rfl, hb3⟩
        have HO := hideP (owns_below HO.out (Nat.le_refl _) hb3)
        have HN := hideP (owns_below HN.out (Nat.le_refl _) hb3)
        have HB := hideP (HB.out.trans (hb3.mono HB.out.size))
        clear hb3 g1
        go_wp2_with (at_builtin; refine wpList_append_rd _ rfl _ _ 42 rfl w.heap.size 9 i0 (.string ⟨#[]⟩) 1 16 Tryd.underlying42 hi hz0 hz1 hz2 rfl (by decide) _ k _ rfl (World.ownsRow.alloc HO.out _) _ 1 1 [decV n] rfl rfl (rd_lit rfl) ?c1 ?c2 ?c3 ?c4 ?_)
        case c1 => simp [decV, Value.oneCell']
        case c2 => unfold maxLen; omega
        case c3 => omega
        case c4 => have := HB.out.size; simp; omega
        intro v9 w9 ho9 hg9
        obtain ⟨p9, c9, rfl, _⟩ := owns_slice ho9
        have HO9 : Hid (w9.ownsRow w.heap.size 9 1 (.slice p9 (k + 1) c9) (k + 1) ((x.nums.take (k + 1)).map decV)) := hideP (by rw [HTK.out, List.map_take]; exact ho9)
        have HNA := hideP (World.ownsRow.alloc HN.out (.cells #[decV n] 9))
        have HOA := hideP (World.ownsRow.alloc HO.out (.cells #[decV n] 9))
        have HN9 := hideP ((KeptP.of_grown hg9).owns HNA.out (fun q hq hq' => rowE_ne HNA.out HOA.out (by decide) q hq hq'))
        have HB9 := hideP ((HB.out.alloc HB.out.size (.cells #[decV n] 9)).grown hg9 (by have := HB.out.size; simp; omega) (fun q e => (HO.out.lt q e).1))
        clear ho9 hg9 HNA HOA HO HN HB HTK hn9
        go_wp2
        go_roundg (gk - 1)
        case measure => omega
        case rel => exact ⟨k + 1, _, _, by omega, by omega, by go_num, rfl, HO9, HN9, HB9⟩
      · obtain rfl : k = 9 := by omega
        have hq : ∃ g, p = some ⟨g, 0, none⟩ ∧ g < wr.heap.size := by
          obtain ⟨_, h2⟩ := HO.out
          rcases h2 with ⟨_, hn⟩ | ⟨g, cap, cur, e, hb, hg, _⟩
          · omega
          · cases e
            exact ⟨g, rfl, (Array.getElem?_eq_some_iff.1 hg).1⟩
        obtain ⟨g, rfl, hgl⟩ := hq
        have hc9 : 9 ≤ c := by obtain ⟨a', c', e, h'⟩ := owns_slice HO.out; cases e; exact h'
        have HR := hideP (rd_of_owns HO.out)
        have HC : ∀ (j : Nat) y, (x.nums.map decB)[j]? = some y → wr.cell? ⟨g, 0 + j, none⟩ = some (.string y) := by
          intro j y hy
          rcases HR.out with h | ⟨b, o, e, _, hc⟩
          · simp [Entry.nums] at h
          · cases e
            exact hc j (.string y) (by rw [List.getElem?_map] at hy; obtain ⟨n, hn, rfl⟩ := Option.map_eq_some_iff.1 hy; rw [show x.nums.take 9 = x.nums from rfl, List.getElem?_map, hn]; rfl)
        have HC := hideP HC
        have HLN : Hid ((Lib.join ((x.nums.map decB).map (·.data.toList)) [32]).length ≤ 140737488355328) := hideP (by
          have := join_len (itoas_len HIN.out)
          rw [show (x.nums.map decB).map (·.data.toList) = x.nums.map Lib.itoa by simp [decB]]
          simp [Entry.nums] at this ⊢
          omega)
        go_wp2_with fail
        refine (Tryd.strings_Join g 0 c (x.nums.map decB) ⟨#[32]⟩ _ HC.out hgl (by simp [Entry.nums]) hc9 HLN.out).mono ?_
        rintro e w5 ⟨rfl, hb5⟩
        have HB5 := hideP (HB.out.trans (hb5.mono HB.out.size))
        go_wp2
        go_ret
        exact ⟨by rw [HS.out]; rfl, HB5.out⟩

end Go.Proofs.YtamfgkicmikmbaaDoor
