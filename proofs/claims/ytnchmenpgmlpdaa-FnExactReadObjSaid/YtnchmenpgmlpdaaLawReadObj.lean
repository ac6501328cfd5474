/- The walk of FnExactReadObj. -/
import Derived.Test.YtnchmenpgmlpdaaObjMark
import Derived.Test.YtnchmenpgmlpdaaReadObjI
import Derived.Test.YtnchmenpgmlpdaaReadObjS
import Derived.ChangeMaps5
namespace Go.Proofs.Ytnchmenpgmlpdaa
open Go.RowKit

theorem readThing_len {l : List UInt8} {o : Thing} {k : Nat} (h : thingRes l = (o, k)) : o.links.length ≤ 1048576 ∧ o.data.length ≤ 1048576 ∧ o.queue.length ≤ 1048576 := by
  unfold thingRes at h
  cases hr : readThing l with
  | none =>
    rw [hr] at h
    cases h
    exact ⟨by decide, by decide, by decide⟩
  | some p =>
    rw [hr] at h
    obtain rfl : p = (o, k) := h
    unfold readThing at hr
    obtain ⟨⟨a, b, c, d, e⟩, h4, hr⟩ := Option.bind_eq_some_iff.1 hr
    obtain ⟨_, _, _, r4, r5, r6, _⟩ := read4_le h4
    dsimp only at hr
    split at hr
    · cases hr
      unfold thingOf
      have := pairs_len d
      refine ⟨?_, ?_, ?_⟩
      · simp [ints]; omega
      · simp [ints]; omega
      · dsimp only; omega
    · cases hr
set_option maxRecDepth 100000 in
set_option maxHeartbeats 8000000 in
theorem lawFnExactReadObj_walk (a0 : ByteArray) (_w0 : a0.size ≤ maxLen) (w : World) :
    Calls Try.prog 9 #[.string a0] w fun e w' => e = .returned (.bool true) ∧ Below w.heap.size w w' := by
  have HM := hideP _w0
  have hm := _w0
  unfold maxLen at hm
  by_cases hs : a0.size ≤ 1048576
  · go_enter Try.func9, Try.ntmps9
    go_wp2_with fail
    refine (specReadObj_any a0 HM.out _).mono ?_
    rintro e w1 ⟨o, k, sl, sd, sq, hr, rfl, ho1, hb1⟩
    obtain ⟨n1, n2, n3⟩ := readThing_len hr
    obtain ⟨sla, slc, rfl, _⟩ := owns_slice ho1.l
    obtain ⟨sda, sdc, rfl, _⟩ := owns_slice ho1.d
    obtain ⟨sqa, sqc, rfl, _⟩ := owns_slice ho1.q
    have HR := hideP hr
    have HO1 := hideP ho1
    have HB1 := hideP hb1
    clear hr ho1 hb1
    go_upto_region 4 with fail
    have Bs := hideP (Blk.new' (w := w1) (g := w1.heap.size) #[.int .i64 o.gen, .int .i64 o.kind, .int .i64 o.box, .int .i64 o.res, .int .i64 o.til, .int .i64 o.pages, .int .i64 o.wait, .int .i64 o.got, .int .i64 o.ran, .bool o.mark, .slice sla o.links.length slc, .slice sda o.data.length sdc, .slice sqa o.queue.length sqc] 71 rfl)
    have hA := below_a1 w1 (.cells #[.int .i64 o.gen, .int .i64 o.kind, .int .i64 o.box, .int .i64 o.res, .int .i64 o.til, .int .i64 o.pages, .int .i64 o.wait, .int .i64 o.got, .int .i64 o.ran, .bool o.mark, .slice sla o.links.length slc, .slice sda o.data.length sdc, .slice sqa o.queue.length sqc] 71)
    obtain ⟨W1, hW⟩ : ∃ W, W = w1.alloc (.cells #[.int .i64 o.gen, .int .i64 o.kind, .int .i64 o.box, .int .i64 o.res, .int .i64 o.til, .int .i64 o.pages, .int .i64 o.wait, .int .i64 o.got, .int .i64 o.ran, .bool o.mark, .slice sla o.links.length slc, .slice sda o.data.length sdc, .slice sqa o.queue.length sqc] 71) := ⟨_, rfl⟩
    rw [← hW] at Bs hA ⊢
    clear hW
    have HO1 := hideP (HO1.out.below hA)
    have HB1 := hideP (HB1.out.trans (hA.mono HB1.out.size))
    clear hA
    go_wp2_with fail
    refine (implReadObj_any a0 HM.out _).mono ?_
    rintro e w2 ⟨o', k', gl, gd, gq, hr2, rfl, ho2, hb2⟩
    obtain ⟨rfl, rfl⟩ : o = o' ∧ k = k' := by have := HR.out.symm.trans hr2; cases this; exact ⟨rfl, rfl⟩
    clear hr2
    obtain ⟨gla, glc, rfl, _⟩ := owns_slice ho2.l
    obtain ⟨gda, gdc, rfl, _⟩ := owns_slice ho2.d
    obtain ⟨gqa, gqc, rfl, _⟩ := owns_slice ho2.q
    have g1 : w1.heap.size < W1.heap.size := Bs.out.lt
    have s1 := hb2.size
    have Bs := hideP (Bs.out.below hb2)
    have HLT : ∀ n, mine (.slice gla o.links.length glc) (.slice gda o.data.length gdc) (.slice gqa o.queue.length gqc) n → W1.heap.size ≤ n ∧ n < w2.heap.size := fun n hn => ho2.lt hn
    have HS : ∀ n, mine (.slice sla o.links.length slc) (.slice sda o.data.length sdc) (.slice sqa o.queue.length sqc) n → n < W1.heap.size := fun n hn => (HO1.out.lt hn).2
    have HO1 := hideP (HO1.out.below hb2)
    have HB2 := hideP (HB1.out.trans (hb2.mono HB1.out.size))
    have HO2 := hideP ho2
    have sw := HB1.out.size
    clear ho2 hb2
    go_upto_region 5 with fail
    have Bg := hideP (Blk.new' (w := w2) (g := w2.heap.size) #[.int .i64 o.gen, .int .i64 o.kind, .int .i64 o.box, .int .i64 o.res, .int .i64 o.til, .int .i64 o.pages, .int .i64 o.wait, .int .i64 o.got, .int .i64 o.ran, .bool o.mark, .slice gla o.links.length glc, .slice gda o.data.length gdc, .slice gqa o.queue.length gqc] 71 rfl)
    have hA := below_a1 w2 (.cells #[.int .i64 o.gen, .int .i64 o.kind, .int .i64 o.box, .int .i64 o.res, .int .i64 o.til, .int .i64 o.pages, .int .i64 o.wait, .int .i64 o.got, .int .i64 o.ran, .bool o.mark, .slice gla o.links.length glc, .slice gda o.data.length gdc, .slice gqa o.queue.length gqc] 71)
    obtain ⟨W2, hW⟩ : ∃ W, W = w2.alloc (.cells #[.int .i64 o.gen, .int .i64 o.kind, .int .i64 o.box, .int .i64 o.res, .int .i64 o.til, .int .i64 o.pages, .int .i64 o.wait, .int .i64 o.got, .int .i64 o.ran, .bool o.mark, .slice gla o.links.length glc, .slice gda o.data.length gdc, .slice gqa o.queue.length gqc] 71) := ⟨_, rfl⟩
    rw [← hW] at Bg hA ⊢
    clear hW
    have s2 : w2.heap.size ≤ W2.heap.size := hA.size
    have g2 : w2.heap.size < W2.heap.size := Bg.out.lt
    have Bs := hideP (Bs.out.below hA)
    have HO1 := hideP (HO1.out.below hA)
    have HB2 := hideP (HB2.out.trans (hA.mono HB2.out.size))
    have HO2 := hideP (HO2.out.below hA)
    clear hA
    have s0 : W2.cell? ⟨w1.heap.size, 0, none⟩ = some (.int .i64 o.gen) := (Bs.out.cell 0).trans rfl
    have s1 : W2.cell? ⟨w1.heap.size, 1, none⟩ = some (.int .i64 o.kind) := (Bs.out.cell 1).trans rfl
    have s2 : W2.cell? ⟨w1.heap.size, 2, none⟩ = some (.int .i64 o.box) := (Bs.out.cell 2).trans rfl
    have s3 : W2.cell? ⟨w1.heap.size, 3, none⟩ = some (.int .i64 o.res) := (Bs.out.cell 3).trans rfl
    have s4 : W2.cell? ⟨w1.heap.size, 4, none⟩ = some (.int .i64 o.til) := (Bs.out.cell 4).trans rfl
    have s5 : W2.cell? ⟨w1.heap.size, 5, none⟩ = some (.int .i64 o.pages) := (Bs.out.cell 5).trans rfl
    have s6 : W2.cell? ⟨w1.heap.size, 6, none⟩ = some (.int .i64 o.wait) := (Bs.out.cell 6).trans rfl
    have s7 : W2.cell? ⟨w1.heap.size, 7, none⟩ = some (.int .i64 o.got) := (Bs.out.cell 7).trans rfl
    have s8 : W2.cell? ⟨w1.heap.size, 8, none⟩ = some (.int .i64 o.ran) := (Bs.out.cell 8).trans rfl
    have s9 : W2.cell? ⟨w1.heap.size, 9, none⟩ = some (.bool o.mark) := (Bs.out.cell 9).trans rfl
    have s10 : W2.cell? ⟨w1.heap.size, 10, none⟩ = some (.slice sla o.links.length slc) := (Bs.out.cell 10).trans rfl
    have s11 : W2.cell? ⟨w1.heap.size, 11, none⟩ = some (.slice sda o.data.length sdc) := (Bs.out.cell 11).trans rfl
    have s12 : W2.cell? ⟨w1.heap.size, 12, none⟩ = some (.slice sqa o.queue.length sqc) := (Bs.out.cell 12).trans rfl
    have g0 : W2.cell? ⟨w2.heap.size, 0, none⟩ = some (.int .i64 o.gen) := (Bg.out.cell 0).trans rfl
    have g1 : W2.cell? ⟨w2.heap.size, 1, none⟩ = some (.int .i64 o.kind) := (Bg.out.cell 1).trans rfl
    have g2 : W2.cell? ⟨w2.heap.size, 2, none⟩ = some (.int .i64 o.box) := (Bg.out.cell 2).trans rfl
    have g3 : W2.cell? ⟨w2.heap.size, 3, none⟩ = some (.int .i64 o.res) := (Bg.out.cell 3).trans rfl
    have g4 : W2.cell? ⟨w2.heap.size, 4, none⟩ = some (.int .i64 o.til) := (Bg.out.cell 4).trans rfl
    have g5 : W2.cell? ⟨w2.heap.size, 5, none⟩ = some (.int .i64 o.pages) := (Bg.out.cell 5).trans rfl
    have g6 : W2.cell? ⟨w2.heap.size, 6, none⟩ = some (.int .i64 o.wait) := (Bg.out.cell 6).trans rfl
    have g7 : W2.cell? ⟨w2.heap.size, 7, none⟩ = some (.int .i64 o.got) := (Bg.out.cell 7).trans rfl
    have g8 : W2.cell? ⟨w2.heap.size, 8, none⟩ = some (.int .i64 o.ran) := (Bg.out.cell 8).trans rfl
    have g9 : W2.cell? ⟨w2.heap.size, 9, none⟩ = some (.bool o.mark) := (Bg.out.cell 9).trans rfl
    have g10 : W2.cell? ⟨w2.heap.size, 10, none⟩ = some (.slice gla o.links.length glc) := (Bg.out.cell 10).trans rfl
    have g11 : W2.cell? ⟨w2.heap.size, 11, none⟩ = some (.slice gda o.data.length gdc) := (Bg.out.cell 11).trans rfl
    have g12 : W2.cell? ⟨w2.heap.size, 12, none⟩ = some (.slice gqa o.queue.length gqc) := (Bg.out.cell 12).trans rfl
    go_wp2_with fail
    refine (eqObj_any o _ _ _ _ _ _ n1 n2 n3 _ HO2.out.is HO1.out.is).mono ?_
    rintro e w3 ⟨rfl, hb3⟩
    clear s0 s1 s2 s3 s4 s5 s6 s7 s8 s9 s10 s11 s12 g0 g1 g2 g3 g4 g5 g6 g7 g8 g9 g10 g11 g12
    have s3' := hb3.size
    have Bs := hideP (Bs.out.below hb3)
    have Bg := hideP (Bg.out.below hb3)
    have HO1 := hideP (HO1.out.below hb3)
    have HB3 := hideP (HB2.out.trans (hb3.mono HB2.out.size))
    have HO2 := hideP (HO2.out.below hb3)
    clear hb3
    have g0 : w3.cell? ⟨w2.heap.size, 0, none⟩ = some (.int .i64 o.gen) := (Bg.out.cell 0).trans rfl
    have g1 : w3.cell? ⟨w2.heap.size, 1, none⟩ = some (.int .i64 o.kind) := (Bg.out.cell 1).trans rfl
    have g2 : w3.cell? ⟨w2.heap.size, 2, none⟩ = some (.int .i64 o.box) := (Bg.out.cell 2).trans rfl
    have g3 : w3.cell? ⟨w2.heap.size, 3, none⟩ = some (.int .i64 o.res) := (Bg.out.cell 3).trans rfl
    have g4 : w3.cell? ⟨w2.heap.size, 4, none⟩ = some (.int .i64 o.til) := (Bg.out.cell 4).trans rfl
    have g5 : w3.cell? ⟨w2.heap.size, 5, none⟩ = some (.int .i64 o.pages) := (Bg.out.cell 5).trans rfl
    have g6 : w3.cell? ⟨w2.heap.size, 6, none⟩ = some (.int .i64 o.wait) := (Bg.out.cell 6).trans rfl
    have g7 : w3.cell? ⟨w2.heap.size, 7, none⟩ = some (.int .i64 o.got) := (Bg.out.cell 7).trans rfl
    have g8 : w3.cell? ⟨w2.heap.size, 8, none⟩ = some (.int .i64 o.ran) := (Bg.out.cell 8).trans rfl
    have g9 : w3.cell? ⟨w2.heap.size, 9, none⟩ = some (.bool o.mark) := (Bg.out.cell 9).trans rfl
    have g10 : w3.cell? ⟨w2.heap.size, 10, none⟩ = some (.slice gla o.links.length glc) := (Bg.out.cell 10).trans rfl
    have g11 : w3.cell? ⟨w2.heap.size, 11, none⟩ = some (.slice gda o.data.length gdc) := (Bg.out.cell 11).trans rfl
    have g12 : w3.cell? ⟨w2.heap.size, 12, none⟩ = some (.slice gqa o.queue.length gqc) := (Bg.out.cell 12).trans rfl
    go_wp2_with fail
    refine (markObj_any o _ _ _ W1.heap.size 1 (by omega) n1 n2 n3 _ HO2.out).mono ?_
    rintro e w4 ⟨rfl, ho4, hk4⟩
    clear g0 g1 g2 g3 g4 g5 g6 g7 g8 g9 g10 g11 g12
    have s4' := hk4.size
    have Bs := hideP (hk4.blk Bs.out (fun e => by have := HLT _ e; omega))
    have Bg := hideP (hk4.blk Bg.out (fun e => by have := HLT _ e; omega))
    have HO1 := hideP (HO1.out.kept hk4 (fun n hn e => by have := HS n hn; have := HLT n e; omega))
    have HB4 := hideP (HB3.out.trans (hk4.below (B := w.heap.size) (by omega) (fun n e => by have := HLT n e; omega)))
    have HM4 := hideP ho4
    clear hk4 ho4 HO2
    have g0 : w4.cell? ⟨w2.heap.size, 0, none⟩ = some (.int .i64 o.gen) := (Bg.out.cell 0).trans rfl
    have g1 : w4.cell? ⟨w2.heap.size, 1, none⟩ = some (.int .i64 o.kind) := (Bg.out.cell 1).trans rfl
    have g2 : w4.cell? ⟨w2.heap.size, 2, none⟩ = some (.int .i64 o.box) := (Bg.out.cell 2).trans rfl
    have g3 : w4.cell? ⟨w2.heap.size, 3, none⟩ = some (.int .i64 o.res) := (Bg.out.cell 3).trans rfl
    have g4 : w4.cell? ⟨w2.heap.size, 4, none⟩ = some (.int .i64 o.til) := (Bg.out.cell 4).trans rfl
    have g5 : w4.cell? ⟨w2.heap.size, 5, none⟩ = some (.int .i64 o.pages) := (Bg.out.cell 5).trans rfl
    have g6 : w4.cell? ⟨w2.heap.size, 6, none⟩ = some (.int .i64 o.wait) := (Bg.out.cell 6).trans rfl
    have g7 : w4.cell? ⟨w2.heap.size, 7, none⟩ = some (.int .i64 o.got) := (Bg.out.cell 7).trans rfl
    have g8 : w4.cell? ⟨w2.heap.size, 8, none⟩ = some (.int .i64 o.ran) := (Bg.out.cell 8).trans rfl
    have g9 : w4.cell? ⟨w2.heap.size, 9, none⟩ = some (.bool o.mark) := (Bg.out.cell 9).trans rfl
    have g10 : w4.cell? ⟨w2.heap.size, 10, none⟩ = some (.slice gla o.links.length glc) := (Bg.out.cell 10).trans rfl
    have g11 : w4.cell? ⟨w2.heap.size, 11, none⟩ = some (.slice gda o.data.length gdc) := (Bg.out.cell 11).trans rfl
    have g12 : w4.cell? ⟨w2.heap.size, 12, none⟩ = some (.slice gqa o.queue.length gqc) := (Bg.out.cell 12).trans rfl
    go_wp2_with fail
    refine (heldObj_any o _ _ _ W1.heap.size 1 (by omega) n1 n2 n3 _ HM4.out).mono ?_
    rintro e w5 ⟨rfl, hb5⟩
    clear g0 g1 g2 g3 g4 g5 g6 g7 g8 g9 g10 g11 g12
    have s5' := hb5.size
    have Bs := hideP (Bs.out.below hb5)
    have Bg := hideP (Bg.out.below hb5)
    have HO1 := hideP (HO1.out.below hb5)
    have HB5 := hideP (HB4.out.trans (hb5.mono HB4.out.size))
    have HM4 := hideP (HM4.out.below hb5)
    clear hb5
    go_wp2_with fail
    refine (implReadObj_any a0 HM.out _).mono ?_
    rintro e w6 ⟨o'', k'', hl, hd, hq, hr2, rfl, ho6, hb6⟩
    obtain ⟨rfl, rfl⟩ : o = o'' ∧ k = k'' := by have := HR.out.symm.trans hr2; cases this; exact ⟨rfl, rfl⟩
    clear hr2
    obtain ⟨hla, hlc, rfl, _⟩ := owns_slice ho6.l
    obtain ⟨hda, hdc, rfl, _⟩ := owns_slice ho6.d
    obtain ⟨hqa, hqc, rfl, _⟩ := owns_slice ho6.q
    have s6' := hb6.size
    have Bs := hideP (Bs.out.below hb6)
    have Bg := hideP (Bg.out.below hb6)
    have HO1 := hideP (HO1.out.below hb6)
    have HB6 := hideP (HB5.out.trans (hb6.mono HB5.out.size))
    have HM4 := hideP (HM4.out.below hb6)
    have HO6 := hideP ho6
    clear hb6 ho6
    go_upto_region 16 with fail
    have Bh := hideP (Blk.new' (w := w6) (g := w6.heap.size) #[.int .i64 o.gen, .int .i64 o.kind, .int .i64 o.box, .int .i64 o.res, .int .i64 o.til, .int .i64 o.pages, .int .i64 o.wait, .int .i64 o.got, .int .i64 o.ran, .bool o.mark, .slice hla o.links.length hlc, .slice hda o.data.length hdc, .slice hqa o.queue.length hqc] 71 rfl)
    have hA := below_a1 w6 (.cells #[.int .i64 o.gen, .int .i64 o.kind, .int .i64 o.box, .int .i64 o.res, .int .i64 o.til, .int .i64 o.pages, .int .i64 o.wait, .int .i64 o.got, .int .i64 o.ran, .bool o.mark, .slice hla o.links.length hlc, .slice hda o.data.length hdc, .slice hqa o.queue.length hqc] 71)
    obtain ⟨W6, hW⟩ : ∃ W, W = w6.alloc (.cells #[.int .i64 o.gen, .int .i64 o.kind, .int .i64 o.box, .int .i64 o.res, .int .i64 o.til, .int .i64 o.pages, .int .i64 o.wait, .int .i64 o.got, .int .i64 o.ran, .bool o.mark, .slice hla o.links.length hlc, .slice hda o.data.length hdc, .slice hqa o.queue.length hqc] 71) := ⟨_, rfl⟩
    rw [← hW] at Bh hA ⊢
    clear hW
    have s7' := hA.size
    have Bs := hideP (Bs.out.below hA)
    have Bg := hideP (Bg.out.below hA)
    have HO1 := hideP (HO1.out.below hA)
    have HB7 := hideP (HB6.out.trans (hA.mono HB6.out.size))
    have HM4 := hideP (HM4.out.below hA)
    have HO6 := hideP (HO6.out.below hA)
    clear hA
    have h0 : W6.cell? ⟨w6.heap.size, 0, none⟩ = some (.int .i64 o.gen) := (Bh.out.cell 0).trans rfl
    have h1 : W6.cell? ⟨w6.heap.size, 1, none⟩ = some (.int .i64 o.kind) := (Bh.out.cell 1).trans rfl
    have h2 : W6.cell? ⟨w6.heap.size, 2, none⟩ = some (.int .i64 o.box) := (Bh.out.cell 2).trans rfl
    have h3 : W6.cell? ⟨w6.heap.size, 3, none⟩ = some (.int .i64 o.res) := (Bh.out.cell 3).trans rfl
    have h4 : W6.cell? ⟨w6.heap.size, 4, none⟩ = some (.int .i64 o.til) := (Bh.out.cell 4).trans rfl
    have h5 : W6.cell? ⟨w6.heap.size, 5, none⟩ = some (.int .i64 o.pages) := (Bh.out.cell 5).trans rfl
    have h6 : W6.cell? ⟨w6.heap.size, 6, none⟩ = some (.int .i64 o.wait) := (Bh.out.cell 6).trans rfl
    have h7 : W6.cell? ⟨w6.heap.size, 7, none⟩ = some (.int .i64 o.got) := (Bh.out.cell 7).trans rfl
    have h8 : W6.cell? ⟨w6.heap.size, 8, none⟩ = some (.int .i64 o.ran) := (Bh.out.cell 8).trans rfl
    have h9 : W6.cell? ⟨w6.heap.size, 9, none⟩ = some (.bool o.mark) := (Bh.out.cell 9).trans rfl
    have h10 : W6.cell? ⟨w6.heap.size, 10, none⟩ = some (.slice hla o.links.length hlc) := (Bh.out.cell 10).trans rfl
    have h11 : W6.cell? ⟨w6.heap.size, 11, none⟩ = some (.slice hda o.data.length hdc) := (Bh.out.cell 11).trans rfl
    have h12 : W6.cell? ⟨w6.heap.size, 12, none⟩ = some (.slice hqa o.queue.length hqc) := (Bh.out.cell 12).trans rfl
    have s0 : W6.cell? ⟨w1.heap.size, 0, none⟩ = some (.int .i64 o.gen) := (Bs.out.cell 0).trans rfl
    have s1 : W6.cell? ⟨w1.heap.size, 1, none⟩ = some (.int .i64 o.kind) := (Bs.out.cell 1).trans rfl
    have s2 : W6.cell? ⟨w1.heap.size, 2, none⟩ = some (.int .i64 o.box) := (Bs.out.cell 2).trans rfl
    have s3 : W6.cell? ⟨w1.heap.size, 3, none⟩ = some (.int .i64 o.res) := (Bs.out.cell 3).trans rfl
    have s4 : W6.cell? ⟨w1.heap.size, 4, none⟩ = some (.int .i64 o.til) := (Bs.out.cell 4).trans rfl
    have s5 : W6.cell? ⟨w1.heap.size, 5, none⟩ = some (.int .i64 o.pages) := (Bs.out.cell 5).trans rfl
    have s6 : W6.cell? ⟨w1.heap.size, 6, none⟩ = some (.int .i64 o.wait) := (Bs.out.cell 6).trans rfl
    have s7 : W6.cell? ⟨w1.heap.size, 7, none⟩ = some (.int .i64 o.got) := (Bs.out.cell 7).trans rfl
    have s8 : W6.cell? ⟨w1.heap.size, 8, none⟩ = some (.int .i64 o.ran) := (Bs.out.cell 8).trans rfl
    have s9 : W6.cell? ⟨w1.heap.size, 9, none⟩ = some (.bool o.mark) := (Bs.out.cell 9).trans rfl
    have s10 : W6.cell? ⟨w1.heap.size, 10, none⟩ = some (.slice sla o.links.length slc) := (Bs.out.cell 10).trans rfl
    have s11 : W6.cell? ⟨w1.heap.size, 11, none⟩ = some (.slice sda o.data.length sdc) := (Bs.out.cell 11).trans rfl
    have s12 : W6.cell? ⟨w1.heap.size, 12, none⟩ = some (.slice sqa o.queue.length sqc) := (Bs.out.cell 12).trans rfl
    go_wp2_with fail
    refine (eqObj_any o _ _ _ _ _ _ n1 n2 n3 _ HO6.out.is HO1.out.is).mono ?_
    rintro e w8 ⟨rfl, hb8⟩
    clear s0 s1 s2 s3 s4 s5 s6 s7 s8 s9 s10 s11 s12 h0 h1 h2 h3 h4 h5 h6 h7 h8 h9 h10 h11 h12
    have s8' := hb8.size
    have Bs := hideP (Bs.out.below hb8)
    have Bg := hideP (Bg.out.below hb8)
    have HO1 := hideP (HO1.out.below hb8)
    have HB8 := hideP (HB7.out.trans (hb8.mono HB7.out.size))
    have HM4 := hideP (HM4.out.below hb8)
    clear hb8
    have g0 : w8.cell? ⟨w2.heap.size, 0, none⟩ = some (.int .i64 o.gen) := (Bg.out.cell 0).trans rfl
    have g1 : w8.cell? ⟨w2.heap.size, 1, none⟩ = some (.int .i64 o.kind) := (Bg.out.cell 1).trans rfl
    have g2 : w8.cell? ⟨w2.heap.size, 2, none⟩ = some (.int .i64 o.box) := (Bg.out.cell 2).trans rfl
    have g3 : w8.cell? ⟨w2.heap.size, 3, none⟩ = some (.int .i64 o.res) := (Bg.out.cell 3).trans rfl
    have g4 : w8.cell? ⟨w2.heap.size, 4, none⟩ = some (.int .i64 o.til) := (Bg.out.cell 4).trans rfl
    have g5 : w8.cell? ⟨w2.heap.size, 5, none⟩ = some (.int .i64 o.pages) := (Bg.out.cell 5).trans rfl
    have g6 : w8.cell? ⟨w2.heap.size, 6, none⟩ = some (.int .i64 o.wait) := (Bg.out.cell 6).trans rfl
    have g7 : w8.cell? ⟨w2.heap.size, 7, none⟩ = some (.int .i64 o.got) := (Bg.out.cell 7).trans rfl
    have g8 : w8.cell? ⟨w2.heap.size, 8, none⟩ = some (.int .i64 o.ran) := (Bg.out.cell 8).trans rfl
    have g9 : w8.cell? ⟨w2.heap.size, 9, none⟩ = some (.bool o.mark) := (Bg.out.cell 9).trans rfl
    have g10 : w8.cell? ⟨w2.heap.size, 10, none⟩ = some (.slice gla o.links.length glc) := (Bg.out.cell 10).trans rfl
    have g11 : w8.cell? ⟨w2.heap.size, 11, none⟩ = some (.slice gda o.data.length gdc) := (Bg.out.cell 11).trans rfl
    have g12 : w8.cell? ⟨w2.heap.size, 12, none⟩ = some (.slice gqa o.queue.length gqc) := (Bg.out.cell 12).trans rfl
    go_wp2_with fail
    refine (heldObj_any o _ _ _ W1.heap.size 1 (by omega) n1 n2 n3 _ HM4.out).mono ?_
    rintro e w9 ⟨rfl, hb9⟩
    clear g0 g1 g2 g3 g4 g5 g6 g7 g8 g9 g10 g11 g12
    have HB9 := hideP (HB8.out.trans (hb9.mono HB8.out.size))
    go_wp2
    go_ret
    exact ⟨rfl, HB9.out⟩
  · go_enter Try.func9, Try.ntmps9
    go_wp2
    go_ret
    exact ⟨rfl, Below.refl _ _⟩

end Go.Proofs.Ytnchmenpgmlpdaa
