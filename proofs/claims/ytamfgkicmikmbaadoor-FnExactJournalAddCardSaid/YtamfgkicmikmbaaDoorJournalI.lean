/- JournalRead of the program. -/
import Derived.Test.YtamfgkicmikmbaaDoorFrameI
import Derived.Test.YtamfgkicmikmbaaDoorApp
import Derived.Test.YtamfgkicmikmbaaDoorShowEntry
import Derived.Deep.LoopGhost
namespace Go.Proofs.YtamfgkicmikmbaaDoor
open Go.RowKit

def Entry.enc (x : Entry) : List Value := x.cells.toList
theorem Entry.enc_len (x : Entry) : x.enc.length = 9 := rfl
theorem Tryd.infoEnt : (Tryd.prog.info? 25).map (fun i => (i.zero, i.size, i.bytes)) = some (some (.agg #[.int .i64 0, .int .i64 0, .int .i64 0, .int .i64 0, .int .i64 0, .int .i64 0, .int .i64 0, .int .i64 0, .int .i64 0]), 9, 72) := by kernel_rfl
def jEs (l : List UInt8) : List Entry := (journal 200 l).1
def jAt (l : List UInt8) : Nat := (journal 200 l).2
def JRet (w : World) (l : List UInt8) (e : Ending) (w' : World) : Prop :=
  ∃ v, e = .returned (.tuple #[v, .int .i64 (jAt l : Int)]) ∧ w'.ownsRow w.heap.size 25 9 v (jEs l).length ((jEs l).flatMap Entry.enc) ∧ Below w.heap.size w w'
/-- So many are read, so far it is. -/
def JSo (l : List UInt8) (es : List Entry) (a : Nat) : Prop := jEs l = es ++ (journal (200 - es.length) (l.drop a)).1 ∧ jAt l = a + (journal (200 - es.length) (l.drop a)).2
theorem JSo.start (l : List UInt8) : JSo l [] 0 := ⟨by simp [jEs], by simp [jAt]⟩
theorem JSo.full {l : List UInt8} {es : List Entry} {a : Nat} (h : JSo l es a) (hl : 200 ≤ es.length) : jEs l = es ∧ jAt l = a := by
  obtain ⟨h1, h2⟩ := h
  rw [show 200 - es.length = 0 by omega] at h1 h2
  simpa [journal] using And.intro h1 h2
theorem JSo.stop {l : List UInt8} {es : List Entry} {a : Nat} (h : JSo l es a) (hl : es.length < 200) (hf : frame (l.drop a) = none) : jEs l = es ∧ jAt l = a := by
  obtain ⟨h1, h2⟩ := h
  obtain ⟨q, hq⟩ : ∃ q, 200 - es.length = q + 1 := ⟨199 - es.length, by omega⟩
  rw [hq, journal, hf] at h1 h2
  simpa using And.intro h1 h2
theorem JSo.step {l : List UInt8} {es : List Entry} {a : Nat} {e : Entry} {n : Nat} (h : JSo l es a) (hl : es.length < 200) (hf : frame (l.drop a) = some (e, n)) : JSo l (es ++ [e]) (a + n) := by
  obtain ⟨h1, h2⟩ := h
  obtain ⟨q, hq⟩ : ∃ q, 200 - es.length = q + 1 := ⟨199 - es.length, by omega⟩
  rw [hq, journal, hf] at h1 h2
  have e2 : 200 - (es ++ [e]).length = q := by simp; omega
  unfold JSo
  rw [e2, ← List.drop_drop]
  dsimp only at h1 h2
  exact ⟨by rw [h1]; simp, by rw [h2]; omega⟩
theorem flat_snoc (es : List Entry) (e : Entry) : (es ++ [e]).flatMap Entry.enc = es.flatMap Entry.enc ++ e.enc := by simp
set_option maxRecDepth 100000 in
set_option maxHeartbeats 4000000 in
theorem implJournalRead_any (s : ByteArray) (hs : s.size ≤ 1048576) (w : World) (hd : Doors w) (m : Int) (hm : w.cell? ⟨0, 0, none⟩ = some (.int .i64 m)) :
    Calls Tryd.prog 10 #[.string s] w (JRet w (bl s)) := by
  obtain ⟨i0, hi, hz0, hz1, hz2⟩ := info_parts Tryd.infoEnt
  have HD := hideP hd
  have HM := hideP hm
  have hw0 : 0 < w.heap.size := World.block_lt_of_cell? _ _ hm
  have hsl := bl_length s
  clear hd hm
  go_enter Tryd.func10, Tryd.ntmps10
  have HO : Hid ((w.alloc (.cells #[] 25)).ownsRow w.heap.size 25 9 (.slice (some ⟨w.heap.size, 0, none⟩) 0 0) 0 (([] : List Entry).flatMap Entry.enc)) := hideP (owns_lit (by omega) rfl (by decide) rfl rfl)
  have HB := hideP (below_a1 w (.cells #[] 25))
  go_wp2
  go_loopg [4, 5] 201 (fun gk sv av wr => ∃ (a : Nat) (es : List Entry) (p : Option Addr) (c : Nat), 200 < gk + es.length ∧ es.length ≤ 200 ∧ a ≤ s.size ∧ av = .int .i64 (a : Int) ∧ sv = .slice p es.length c ∧ Hid (JSo (bl s) es a) ∧ Hid (wr.ownsRow w.heap.size 25 9 (.slice p es.length c) es.length (es.flatMap Entry.enc)) ∧ Hid (Below w.heap.size w wr))
  case atStart => exact ⟨0, [], _, _, by simp, by simp, by omega, rfl, rfl, hideP (JSo.start _), HO, HB⟩
  case round =>
    clear HO HB
    obtain ⟨a, es, p, c, hgk, hes, ha, rfl, rfl, HJ, HO, HB⟩ := hrel
    by_cases hlt : es.length < 200
    · have k1 : (es.length : Int) < 200 := by omega
      have a1 : (a : Int) ≤ (s.size : Int) := by omega
      obtain ⟨t, ht⟩ : ∃ t, s.extract a s.size = t := ⟨_, rfl⟩
      have hbt : bl t = (bl s).drop a := by rw [← ht]; exact bl_from s a
      have hts : t.size ≤ 1048576 := by rw [← bl_length t, hbt, List.length_drop, hsl]; omega
      have HT := hideP hbt
      clear hbt
      go_wp2_with fail
      refine (implReadFrame_any t hts _ (HD.out.below HB.out) m ((HB.out.cell (p := ⟨0, 0, none⟩) hw0).trans HM.out)).mono ?_
      rw [HT.out]
      cases hf : frame ((bl s).drop a) with
      | none =>
        rw [frameRes_none hf]
        have HE := hideP (HJ.out.stop hlt hf)
        rintro e w3 ⟨rfl, hb3⟩
        have HO := hideP ((owns_below HO.out (Nat.le_refl _) hb3).alloc (.cells #[.int .i64 0, .int .i64 0, .int .i64 0, .int .i64 0, .int .i64 0, .int .i64 0, .int .i64 0, .int .i64 0, .int .i64 0] 25))
        have HB := hideP ((HB.out.trans (hb3.mono HB.out.size)).alloc (by have := HB.out.size; have := hb3.size; omega) (.cells #[.int .i64 0, .int .i64 0, .int .i64 0, .int .i64 0, .int .i64 0, .int .i64 0, .int .i64 0, .int .i64 0, .int .i64 0] 25))
        clear hb3 hf
        go_wp2
        go_ret2
        refine ⟨_, by rw [HE.out.2]; rfl, ?_, HB.out⟩
        rw [HE.out.1]
        exact HO.out
      | some q =>
        obtain ⟨⟨a0, a1, a2, a3, a4, a5, a6, a7, a8⟩, n⟩ := q
        rw [frameRes_some hf]
        have hle := frame_le hf
        rw [List.length_drop, hsl] at hle
        have HJ2 := hideP (HJ.out.step hlt hf)
        unfold Entry.cells
        rintro e w3 ⟨rfl, hb3⟩
        have n0 : ((n : Int) == 0) = false := by simp; omega
        have HO := hideP ((owns_below HO.out (Nat.le_refl _) hb3).alloc (.cells #[.int .i64 a0, .int .i64 a1, .int .i64 a2, .int .i64 a3, .int .i64 a4, .int .i64 a5, .int .i64 a6, .int .i64 a7, .int .i64 a8] 25))
        have HB := hideP ((HB.out.trans (hb3.mono HB.out.size)).alloc (by have := HB.out.size; have := hb3.size; omega) (.cells #[.int .i64 a0, .int .i64 a1, .int .i64 a2, .int .i64 a3, .int .i64 a4, .int .i64 a5, .int .i64 a6, .int .i64 a7, .int .i64 a8] 25))
        clear hb3 hf HJ
        go_wp2_with (at_builtin; refine wpList_append_rd _ rfl _ _ 30 rfl w.heap.size 25 i0 (.agg #[.int .i64 0, .int .i64 0, .int .i64 0, .int .i64 0, .int .i64 0, .int .i64 0, .int .i64 0, .int .i64 0, .int .i64 0]) 9 72 Tryd.underlying30 hi hz0 hz1 hz2 rfl (by decide) _ es.length _ rfl (World.ownsRow.alloc HO.out _) _ 1 1 [.int .i64 a0, .int .i64 a1, .int .i64 a2, .int .i64 a3, .int .i64 a4, .int .i64 a5, .int .i64 a6, .int .i64 a7, .int .i64 a8] rfl rfl (rd_litg rfl (by simp)) ?c1 ?c2 ?c3 ?c4 ?_)
        case c1 => simp [Value.oneCell']
        case c2 => unfold maxLen; omega
        case c3 => omega
        case c4 => exact Nat.le_trans HB.out.size (by simp)
        intro v9 w9 ho9 hg9
        obtain ⟨p9, c9, rfl, _⟩ := owns_slice ho9
        have HO9 : Hid (w9.ownsRow w.heap.size 25 9 (.slice p9 (es.length + 1) c9) (es ++ [(⟨a0, a1, a2, a3, a4, a5, a6, a7, a8⟩ : Entry)]).length ((es ++ [(⟨a0, a1, a2, a3, a4, a5, a6, a7, a8⟩ : Entry)]).flatMap Entry.enc)) := hideP (by rw [flat_snoc, List.length_append]; exact ho9)
        have HB9 := hideP ((HB.out.alloc HB.out.size (.cells #[.int .i64 a0, .int .i64 a1, .int .i64 a2, .int .i64 a3, .int .i64 a4, .int .i64 a5, .int .i64 a6, .int .i64 a7, .int .i64 a8] 25)).grown hg9 (Nat.le_trans HB.out.size (by simp)) (fun q e => (HO.out.lt q e).1))
        clear ho9 hg9
        clear HO HB
        go_wp2
        go_roundg (gk - 1)
        case measure => omega
        case rel => exact ⟨a + n, _, p9, c9, by simp; omega, by simp; omega, by omega, by go_num, by simp, HJ2, by simpa using HO9, HB9⟩
    · have HE := hideP (HJ.out.full (by omega))
      have k1 : ¬ (es.length : Int) < 200 := by omega
      go_wp2
      go_ret2
      refine ⟨_, by rw [HE.out.2]; rfl, ?_, HB.out⟩
      rw [HE.out.1]
      exact HO.out

end Go.Proofs.YtamfgkicmikmbaaDoor
