/- Boots drawn. -/
import Derived.Test.YtnchmenpgmlpdaaDrawMore
import Derived.Test.YtnchmenpgmlpdaaBootsSz
import Derived.Test.YtnchmenpgmlpdaaBootTo
import Derived.Deep.DeepCutAuto
import Derived.Deep.LoopGhost
import Derived.Deep.RegionLaw
import Derived.Deep.AppendLies
import Derived.ChangeAlike
namespace Go.Proofs.Ytnchmenpgmlpdaa
open Go.RowKit

/-- What a drawn label is. -/
def LabRet (W : World) (cb : Nat) (w : World) (e : Ending) (w' : World) : Prop :=
  ∃ (p : Option Addr) (c : Nat) (ls : List Int), e = .returned (.agg #[.slice p 4 c]) ∧ ls.length = 4 ∧ w'.ownsRow w.heap.size 3 1 (.slice p 4 c) 4 (icell ls) ∧ Drew W cb w w'
set_option maxRecDepth 100000 in
set_option maxHeartbeats 4000000 in
theorem l3Label_any {W w : World} {cb : Nat} (h : DE W cb w) : Calls Try.prog 167 #[.pointer (some ⟨cb, 0, none⟩)] w (LabRet W cb w) := by
  obtain ⟨i0, hi, hz0, hz1, hz2⟩ := info_parts Try.infoIntB
  have hW := h.lt.2
  have hcb := h.lt.1
  have HD : Hid (Drew W cb w ((w.alloc (.cells #[.slice none 0 0] 41)).alloc (.cells #[.slice none 0 0] 41))) := hideP ((Drew.refl h).below (below_a2 _ _ _))
  have HR : Hid (Blk ((w.alloc (.cells #[.slice none 0 0] 41)).alloc (.cells #[.slice none 0 0] 41)) w.heap.size 41 [.slice none 0 0]) := hideP ((Blk.new w #[.slice none 0 0] 41).alloc _)
  have HA : Hid (Blk ((w.alloc (.cells #[.slice none 0 0] 41)).alloc (.cells #[.slice none 0 0] 41)) (w.heap.size + 1) 41 [.slice none 0 0]) := hideP (by have := Blk.new (w.alloc (.cells #[.slice none 0 0] 41)) #[.slice none 0 0] 41; simpa using this)
  clear h
  go_enter Try.func167, Try.ntmps167
  go_upto_region 2 with fail
  obtain ⟨w0, hw0⟩ : ∃ w0, w0 = (w.alloc (.cells #[.slice none 0 0] 41)).alloc (.cells #[.slice none 0 0] 41) := ⟨_, rfl⟩
  rw [← hw0] at HD HR HA ⊢
  clear hw0
  go_wp2
  go_loopg [4] 5 (fun gk i wr => ∃ (k : Nat) (p : Option Addr) (c : Nat) (ls : List Int), 4 < gk + k ∧ k ≤ 4 ∧ i = .int .i64 (k : Int) ∧ ls.length = k ∧ Hid (Blk wr (w.heap.size + 1) 41 [.slice p k c]) ∧ Hid (Blk wr w.heap.size 41 [.slice none 0 0]) ∧ Hid (wr.ownsRow (w.heap.size + 2) 3 1 (.slice p k c) k (icell ls)) ∧ Hid (Drew W cb w wr) ∧ w.heap.size + 2 ≤ wr.heap.size)
  case atStart => exact ⟨0, none, 0, [], by omega, by omega, rfl, rfl, HA, HR, hideP (owns_nilB _ _ _ _), HD, by have := HA.out.lt; omega⟩
  case round =>
    clear HA HR HD
    obtain ⟨k, p, c, ls, hgk, hk, rfl, hls, HA, HR, HO, HD, hsz⟩ := hrel
    have HLS := hideP hls
    clear hls
    by_cases hlt : k < 4
    · have k1 : (k : Int) < 4 := by omega
      have c0 : wr.cell? ⟨w.heap.size + 1, 0, none⟩ = some (.slice p k c) := (HA.out.cell 0).trans rfl
      have OB : ∀ x, (Value.slice p k c).ownBlock = some x → w.heap.size + 2 ≤ x ∧ x < wr.heap.size := fun x hx => HO.out.lt x hx
      go_wp2
      go_region_law (first | (go_simp; go_at_call 86; refine (de_below 4 (by omega) (by omega) (show DE W cb wr.drew from HD.out.1)).mono ?_; rintro e w2 ⟨x, rfl, x0, x1, hd⟩; replace hd := Drew.undrew hd; have HD2 := hideP (HD.out.trans hd); have HA2 := hideP (hd.blk HA.out (by omega)); have HR2 := hideP (hd.blk HR.out (by omega)); have HO2 := hideP (hd.owns HO.out (by omega)); have c2 : w2.cell? ⟨w.heap.size + 1, 0, none⟩ = some (.slice p k c) := (HA2.out.cell 0).trans rfl; have hzw := hd.2.size; have e2 := cell_alloc_keepB c2 (.cells #[.int .i64 x] 3); clear hd; go_wp2_with fail) | (refine step_append_lies _ rfl _ _ 39 rfl (w.heap.size + 2) 3 i0 (.int .i64 0) 1 8 Try.underlying39 hi hz0 hz1 hz2 rfl (by decide) _ k _ rfl (World.ownsRow.alloc HO2.out _) _ 1 1 [.int .i64 x] rfl rfl (newsB (cs := #[.int .i64 x]) rfl) (by simp [Value.oneCell']) (by decide) (by unfold maxLen; omega) (by omega) (by simp; omega) _ rfl ?_; intro g9 c9 w9 ho9 hg9 hq9 hr9; have X9 := hideP ((HA2.out.alloc (.cells #[.int .i64 x] 3)).kept (hg9.block _ (HA2.out.alloc _).lt (fun e => by have := OB _ e.symm; omega))); have R9 := hideP ((HR2.out.alloc (.cells #[.int .i64 x] 3)).kept (hg9.block _ (HR2.out.alloc _).lt (fun e => by have := OB _ e.symm; omega))); have x9 : w9.cell? ⟨w.heap.size + 1, 0, none⟩ = some (.slice p k c) := (X9.out.cell 0).trans rfl; have f9 : w9.frozen? ⟨w.heap.size + 1, 0, none⟩ = false := X9.out.frozen 0; have O9 := Lib.hid ho9; have D9 := hideP ((HD2.out.alloc (.cells #[.int .i64 x] 3)).own hg9 hW (fun q hq => by have := OB q hq; omega)); have z9 := hg9.size; clear ho9 hg9 hq9 hr9))
      all_goals
        have OB9 : ∀ q, (Value.slice (some ⟨g9, 0, none⟩) (k + 1) c9).ownBlock = some q → w.heap.size + 2 ≤ q := fun q hq => (O9.out.lt q hq).1
        have X9s : Hid (Blk (w9.setCell ⟨w.heap.size + 1, 0, none⟩ (.slice (some ⟨g9, 0, none⟩) (k + 1) c9)) (w.heap.size + 1) 41 [.slice (some ⟨g9, 0, none⟩) (k + 1) c9]) := hideP (X9.out.set 0 _)
        have R9s := hideP (R9.out.other 0 (.slice (some ⟨g9, 0, none⟩) (k + 1) c9) (show w.heap.size ≠ w.heap.size + 1 by omega))
        have O9s : Hid ((w9.setCell ⟨w.heap.size + 1, 0, none⟩ (.slice (some ⟨g9, 0, none⟩) (k + 1) c9)).ownsRow (w.heap.size + 2) 3 1 (.slice (some ⟨g9, 0, none⟩) (k + 1) c9) (k + 1) (icell (ls ++ [x]))) := hideP (by
          rw [show icell (ls ++ [x]) = icell ls ++ [.int .i64 x] by simp [icell]]
          exact owns_setB O9.out (fun q hq => by have := OB9 q hq; omega))
        have D9s := hideP (D9.out.set (g := w.heap.size + 1) (i := 0) (v := .slice (some ⟨g9, 0, none⟩) (k + 1) c9) hW (by omega))
        have L9 : (ls ++ [x]).length = k + 1 := by rw [List.length_append, HLS.out]; rfl
        have Z9 : w.heap.size + 2 ≤ (w9.setCell ⟨w.heap.size + 1, 0, none⟩ (.slice (some ⟨g9, 0, none⟩) (k + 1) c9)).heap.size := by simp at z9 ⊢; omega
        clear X9 R9 O9 D9 x9 f9 HA HR HO HD HA2 HR2 HO2 HD2 c0 c2 e2
        go_wp2
        go_roundg (gk - 1)
        case measure => omega
        case rel => exact ⟨k + 1, some ⟨g9, 0, none⟩, c9, ls ++ [x], by omega, by omega, by go_num, L9, X9s, R9s, O9s, D9s, Z9⟩
    · obtain rfl : k = 4 := by omega
      have c0 : wr.cell? ⟨w.heap.size + 1, 0, none⟩ = some (.slice p 4 c) := (HA.out.cell 0).trans rfl
      have r0 : wr.cell? ⟨w.heap.size, 0, none⟩ = some (.slice none 0 0) := (HR.out.cell 0).trans rfl
      have f0 : wr.frozen? ⟨w.heap.size, 0, none⟩ = false := HR.out.frozen 0
      have D9 := hideP (HD.out.set (g := w.heap.size) (i := 0) (v := .slice p 4 c) hW (Nat.le_refl _))
      have O9 : Hid ((wr.setCell ⟨w.heap.size, 0, none⟩ (.slice p 4 c)).ownsRow w.heap.size 3 1 (.slice p 4 c) 4 (icell ls)) := hideP (owns_setB (owns_mono HO.out (by omega)) (fun q hq => by have := (HO.out.lt q hq).1; omega))
      clear HA HR HO HD
      go_wp2
      exact bodyPost_ret (v := .agg #[.slice p 4 c]) (by simp [results, Try.results167, go_sem, r0]) rfl ⟨p, c, ls, rfl, HLS.out, O9.out, D9.out⟩

end Go.Proofs.Ytnchmenpgmlpdaa
