/- ShowArena of the reference. -/
import Derived.Test.YtabbncoihmhocaaArenaOkS
import Derived.Test.YtabbncoihmhocaaShowObjS
import Derived.Deep.DeepCutAuto
namespace Go.Proofs.Ytabbncoihmhocaa
open Go.RowKit

def showArena (l : List Thing) : List UInt8 := if arenaOk l = true then l.flatMap showThing else []
theorem arena_thing {l : List Thing} (h : arenaOk l = true) {k : Nat} {x : Thing} (hx : l[k]? = some x) : thingOk x = true := by
  unfold arenaOk at h
  rw [Bool.and_eq_true] at h
  have := idxAll_iff.1 h.2 k x hx
  rw [Nat.zero_add] at this
  unfold slotOk at this
  rw [Bool.and_eq_true] at this
  exact this.1
theorem arena_ten {l : List Thing} (h : arenaOk l = true) : l.length = 10 := by
  unfold arenaOk arenaHead at h
  simp only [Bool.and_eq_true, decide_eq_true_eq] at h
  exact h.1.1
theorem showThing_len (x : Thing) : (showThing x).length ≤ 216 := by
  unfold showThing
  split
  · next h =>
    have hg := thing_good h
    have h1 := thingShow_len x
    have h2 := hg.links
    have h3 := hg.data
    have h4 := hg.queue
    omega
  · simp
theorem shows_len : ∀ l : List Thing, (l.flatMap showThing).length ≤ 216 * l.length
  | [] => by simp
  | x :: l => by
    rw [List.flatMap_cons, List.length_append, List.length_cons]
    have := shows_len l
    have := showThing_len x
    omega
theorem shows_take (l : List Thing) (h : l.length = 10) (k : Nat) : ((l.take k).flatMap showThing).length ≤ 2160 := by
  have h1 := shows_len (l.take k)
  have h2 : (l.take k).length ≤ 10 := by rw [List.length_take]; omega
  omega
theorem shows_next {l : List Thing} {k : Nat} {x : Thing} (hx : l[k]? = some x) : (l.take (k + 1)).flatMap showThing = (l.take k).flatMap showThing ++ showThing x := by
  obtain ⟨hk, rfl⟩ := List.getElem?_eq_some_iff.1 hx
  rw [List.take_succ_eq_append_getElem hk, List.flatMap_append]
  simp
set_option maxRecDepth 100000 in
set_option maxHeartbeats 8000000 in
theorem specShowArena_any (l : List Thing) (p : Option Addr) (c : Nat) (hl : l.length ≤ 1048576) (hs : Short 1048576 l) (w : World) (h : ThingsRd w p l) :
    Calls Try.prog 40 #[.slice p l.length c] w fun e w' => e = .returned (.string ⟨(showArena l).toArray⟩) ∧ Below w.heap.size w w' := by
  have HR := hideP h
  have HS := hideP hs
  clear h hs
  go_enter Try.func40, Try.ntmps40
  go_wp2_with fail
  refine (specArenaOk_any l p c hl HS.out _ HR.out).mono ?_
  rintro e w1 ⟨rfl, hb1⟩
  have HB := hideP hb1
  clear hb1
  cases hok : arenaOk l
  · have HN : Hid (showArena l = []) := hideP (by unfold showArena; rw [hok]; rfl)
    go_wp2
    go_ret
    exact ⟨by rw [HN.out]; rfl, HB.out⟩
  have HN : Hid (showArena l = l.flatMap showThing) := hideP (by unfold showArena; rw [hok]; rfl)
  have HL := hideP (arena_ten hok)
  clear hok
  go_wp2
  go_loopg [3, 4] (l.length + 1) (fun gk s i wr => ∃ (k : Nat) (acc : List UInt8), l.length < gk + k ∧ k ≤ l.length ∧ i = .int .i64 (k : Int) ∧ s = .string ⟨acc.toArray⟩ ∧ acc.length ≤ 2160 ∧ Hid ((l.take k).flatMap showThing = acc) ∧ Hid (Below w.heap.size w wr))
  case atStart => exact ⟨0, [], by omega, by omega, rfl, rfl, by simp, hideP rfl, HB⟩
  case round =>
    clear HB
    obtain ⟨k, acc, hgk, hk, rfl, rfl, hal, hv, HB⟩ := hrel
    by_cases hlt : k < l.length
    · obtain ⟨x, hx⟩ := some_at (l := l) (k := k) hlt
      obtain ⟨b, o, vl, vd, vq, rfl, hbr, hth, hz9⟩ := HR.out.below HB.out k x hx
      obtain ⟨⟨s1, s2, s3⟩, hw⟩ := HS.out x (List.mem_of_getElem? hx)
      have HT := hideP hth
      clear hth
      obtain ⟨al, cl, rfl⟩ := HT.out.l.shape
      obtain ⟨ad, cd, rfl⟩ := HT.out.d.shape
      obtain ⟨aq, cq, rfl⟩ := HT.out.q.shape
      have g0 : World.cell? _ ⟨b, o + k * 13, none⟩ = some (.int .i64 x.gen) := hz9 0 _ rfl
      have g1 : World.cell? _ ⟨b, o + k * 13 + 1, none⟩ = some (.int .i64 x.kind) := hz9 1 _ rfl
      have g2 : World.cell? _ ⟨b, o + k * 13 + 2, none⟩ = some (.int .i64 x.box) := hz9 2 _ rfl
      have g3 : World.cell? _ ⟨b, o + k * 13 + 3, none⟩ = some (.int .i64 x.res) := hz9 3 _ rfl
      have g4 : World.cell? _ ⟨b, o + k * 13 + 4, none⟩ = some (.int .i64 x.til) := hz9 4 _ rfl
      have g5 : World.cell? _ ⟨b, o + k * 13 + 5, none⟩ = some (.int .i64 x.pages) := hz9 5 _ rfl
      have g6 : World.cell? _ ⟨b, o + k * 13 + 6, none⟩ = some (.int .i64 x.wait) := hz9 6 _ rfl
      have g7 : World.cell? _ ⟨b, o + k * 13 + 7, none⟩ = some (.int .i64 x.got) := hz9 7 _ rfl
      have g8 : World.cell? _ ⟨b, o + k * 13 + 8, none⟩ = some (.int .i64 x.ran) := hz9 8 _ rfl
      have g9 : World.cell? _ ⟨b, o + k * 13 + 9, none⟩ = some (.bool x.mark) := hz9 9 _ rfl
      have g10 : World.cell? _ ⟨b, o + k * 13 + 10, none⟩ = some (.slice al x.links.length cl) := hz9 10 _ rfl
      have g11 : World.cell? _ ⟨b, o + k * 13 + 11, none⟩ = some (.slice ad x.data.length cd) := hz9 11 _ rfl
      have g12 : World.cell? _ ⟨b, o + k * 13 + 12, none⟩ = some (.slice aq x.queue.length cq) := hz9 12 _ rfl
      have k0 : (0 : Int) ≤ (k : Int) := by omega
      have k1 : (k : Int) < (l.length : Int) := by omega
      have HV : Hid ((l.take (k + 1)).flatMap showThing = acc ++ showThing x) := hideP (by rw [shows_next hx, hv.out])
      have hal2 : (acc ++ showThing x).length ≤ 2160 := by rw [← HV.out]; exact shows_take l HL.out _
      have HAL := Lib.hid hal2
      have hsl := showThing_len x
      clear hx hz9 hal2
      go_wp2_with fail
      refine (specShowObj_any x _ _ _ s1 s2 s3 hw _ HT.out).mono ?_
      rintro e w2 ⟨rfl, hb2⟩
      have HB := hideP (HB.out.trans (hb2.mono HB.out.size))
      clear hb2 HT g0 g1 g2 g3 g4 g5 g6 g7 g8 g9 g10 g11 g12
      go_wp2
      go_roundg (gk - 1)
      case measure => omega
      case rel => exact ⟨k + 1, _, by omega, by omega, by go_num, (by rw [ByteArray.mk_append_mk]; try rfl), HAL.out, HV, HB⟩
    · have HV : Hid (l.flatMap showThing = acc) := hideP (by rw [← hv.out, List.take_of_length_le (by omega)])
      have d1 : ¬ ((k : Int) < (l.length : Int)) := by omega
      go_wp2
      go_ret
      exact ⟨by rw [HN.out, HV.out]; rfl, HB.out⟩

end Go.Proofs.Ytabbncoihmhocaa
