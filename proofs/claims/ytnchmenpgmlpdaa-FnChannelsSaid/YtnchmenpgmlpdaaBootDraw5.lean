/- Boots drawn: l15AnyBoot. -/
import Derived.Test.YtnchmenpgmlpdaaBootDraw4
namespace Go.Proofs.Ytnchmenpgmlpdaa
open Go.RowKit

section
variable {w : World} {B g n c : Nat} {x : Boot} {vl vo : Value} {bs : List (Boot × Value × Value)}
theorem BS.hit {i : Nat} {u : Value} (h : BS w B (.slice (some ⟨g, 0, none⟩) n c) ((x, vl, vo) :: bs)) (y : Boot) (yl yo : Value) (hb : bxs ((y, yl, yo) :: bs) = (bxs ((x, vl, vo) :: bs)).set i u)
    (hl : RowI w B yl y.lv) (ho : RowI w B yo y.own) (h5 : y.lv.length ≤ 5 ∧ y.own.length ≤ 5) : BS (w.setCell ⟨g, i, none⟩ u) B (.slice (some ⟨g, 0, none⟩) n c) ((y, yl, yo) :: bs) := by
  obtain ⟨a', c', e, _⟩ := owns_slice h.row
  cases e
  have hi : ∀ v ls, RowI w B v ls → ∀ q, v.ownBlock = some q → ¬ (q = g) := fun v ls hr q hq e => row_ne2 hr h.row (by decide) q hq (by rw [e]; rfl)
  refine ⟨?_, ?_⟩
  · rw [hb]
    exact (h.row.stored i u).1
  · intro z hz
    rcases List.mem_cons.1 hz with rfl | hz
    · exact ⟨hl.kept (kept_set w g i u) (hi _ _ hl), ho.kept (kept_set w g i u) (hi _ _ ho), h5⟩
    · obtain ⟨h1, h2, h3⟩ := h.el z (List.mem_cons_of_mem _ hz)
      exact ⟨h1.kept (kept_set w g i u) (hi _ _ h1), h2.kept (kept_set w g i u) (hi _ _ h2), h3⟩
theorem BS.hitL {ls : List Int} {u : Value} (h : BS w B (.slice (some ⟨g, 0, none⟩) n c) ((x, vl, vo) :: bs)) (hl : RowI w B u ls) (h5 : ls.length ≤ 5) : BS (w.setCell ⟨g, 0, none⟩ u) B (.slice (some ⟨g, 0, none⟩) n c) ((⟨ls, x.own, x.a⟩, u, vo) :: bs) := by
  obtain ⟨h1, h2, h3, h4⟩ := h.el (x, vl, vo) (List.mem_cons_self ..)
  exact h.hit _ _ _ (by simp [bxs, Boot.cells]) hl h2 ⟨h5, h4⟩
theorem BS.hitO {ls : List Int} {u : Value} (h : BS w B (.slice (some ⟨g, 0, none⟩) n c) ((x, vl, vo) :: bs)) (hl : RowI w B u ls) (h5 : ls.length ≤ 5) : BS (w.setCell ⟨g, 1, none⟩ u) B (.slice (some ⟨g, 0, none⟩) n c) ((⟨x.lv, ls, x.a⟩, vl, u) :: bs) := by
  obtain ⟨h1, h2, h3, h4⟩ := h.el (x, vl, vo) (List.mem_cons_self ..)
  exact h.hit _ _ _ (by simp [bxs, Boot.cells]) h1 hl ⟨h3, h5⟩
theorem BS.hitA (h : BS w B (.slice (some ⟨g, 0, none⟩) n c) ((x, vl, vo) :: bs)) (a : Amt) : BS (((w.setCell ⟨g, 2, none⟩ (.int .i64 a.p)).setCell ⟨g, 3, none⟩ (.int .i64 a.r)).setCell ⟨g, 4, none⟩ (.int .i64 a.c)) B (.slice (some ⟨g, 0, none⟩) n c) ((⟨x.lv, x.own, a⟩, vl, vo) :: bs) := by
  have s1 := h.hit (i := 2) (u := .int .i64 a.p) ⟨x.lv, x.own, ⟨a.p, x.a.r, x.a.c⟩⟩ vl vo (by simp [bxs, Boot.cells]) (h.el _ (List.mem_cons_self ..)).1 (h.el _ (List.mem_cons_self ..)).2.1 (h.el _ (List.mem_cons_self ..)).2.2
  have s2 := s1.hit (i := 3) (u := .int .i64 a.r) ⟨x.lv, x.own, ⟨a.p, a.r, x.a.c⟩⟩ vl vo (by simp [bxs, Boot.cells]) (s1.el _ (List.mem_cons_self ..)).1 (s1.el _ (List.mem_cons_self ..)).2.1 (s1.el _ (List.mem_cons_self ..)).2.2
  exact s2.hit (i := 4) (u := .int .i64 a.c) ⟨x.lv, x.own, a⟩ vl vo (by simp [bxs, Boot.cells]) (s2.el _ (List.mem_cons_self ..)).1 (s2.el _ (List.mem_cons_self ..)).2.1 (s2.el _ (List.mem_cons_self ..)).2.2
theorem BS.first {v : Value} (h : BS w B v bs) (h1 : 1 ≤ bs.length) : ∃ g n c x vl vo bs', v = (.slice (some ⟨g, 0, none⟩) n c) ∧ bs = (x, vl, vo) :: bs' ∧ B ≤ g ∧ g < w.heap.size ∧ 1 ≤ n := by
  match bs, h1 with
  | (x, vl, vo) :: bs, _ =>
    obtain ⟨_, h2⟩ := h.row
    rcases h2 with ⟨_, hn⟩ | ⟨g, cap, cur, e, hb, hg, _⟩
    · simp at hn
    · exact ⟨g, _, cap, x, vl, vo, bs, e, rfl, hb, (Array.getElem?_eq_some_iff.1 hg).1, by simp⟩
theorem BS.ats (h : BS w B (.slice (some ⟨g, 0, none⟩) n c) ((x, vl, vo) :: bs)) : w.cell? ⟨g, 0, none⟩ = some vl ∧ w.cell? ⟨g, 1, none⟩ = some vo ∧ w.cell? ⟨g, 2, none⟩ = some (.int .i64 x.a.p) ∧ w.cell? ⟨g, 3, none⟩ = some (.int .i64 x.a.r) ∧ w.cell? ⟨g, 4, none⟩ = some (.int .i64 x.a.c) ∧ ∀ i, i < 5 → w.frozen? ⟨g, i, none⟩ = false := by
  obtain ⟨a', c', e, _⟩ := owns_slice h.row
  cases e
  have hc : ∀ j u, (bxs ((x, vl, vo) :: bs))[j]? = some u → w.cell? ⟨g, j, none⟩ = some u := by
    rcases rd_of_owns h.row with h | ⟨b, o, e, _, hc⟩
    · simp [bxs, Boot.cells] at h
    · cases e
      intro j u hu
      have := hc j u hu
      simpa using this
  exact ⟨hc 0 _ rfl, hc 1 _ rfl, hc 2 _ rfl, hc 3 _ rfl, hc 4 _ rfl, fun i hi => (owns_at h.row (j := i) (by simp; omega)).2⟩
end
/-- What l15AnyBoot hands back. -/
def AnyBoots (W : World) (cb : Nat) (w : World) (e : Ending) (w' : World) : Prop :=
  ∃ v bs, e = .returned v ∧ BS w' w.heap.size v bs ∧ bs.length ≤ 4 ∧ Drew W cb w w'
set_option maxRecDepth 100000 in
set_option maxHeartbeats 8000000 in
theorem l15AnyBoot_any {W w : World} {cb : Nat} (h : DE W cb w) : Calls Try.prog 79 #[.pointer (some ⟨cb, 0, none⟩)] w (AnyBoots W cb w) := by
  obtain ⟨j0, hj, hy0, hy1, hy2⟩ := info_parts Try.infoBoot
  have hW := h.lt.2
  have H0 := hideP h
  clear h
  go_enter Try.func79, Try.ntmps79
  go_wp2_with fail
  refine (l15Boot_any H0.out).mono ?_
  rintro e w1 ⟨v, bs, rfl, hbs, hlen, hlen3, hd⟩
  have HBS := hideP hbs
  have HD := hideP hd
  clear H0 hbs hd
  go_wp2_with fail
  refine (de_below 16 (by omega) (by omega) HD.out.1).mono ?_
  rintro e w2 ⟨y, rfl, y0, y1, hd⟩
  have HBS := hideP (HBS.out.drew hd hW)
  have HD := hideP (HD.out.trans hd)
  clear hd
  obtain rfl | rfl | rfl | rfl | rfl | hy : y = 0 ∨ y = 1 ∨ y = 2 ∨ y = 3 ∨ y = 4 ∨ 5 ≤ y := by omega
  · go_wp2
    go_ret
    exact ⟨_, [], rfl, BS.nil _ _, by simp, HD.out⟩
  · have HL1 := hideP hlen
    have HL3 := hideP hlen3
    clear hlen hlen3
    go_wp2
    go_loopg [3] 5 (fun gk sv wr => ∃ (v : Value) (p : Option Addr) (c : Nat) (bs : List (Boot × Value × Value)), 4 < gk + bs.length ∧ bs.length ≤ 4 ∧ v = .slice p bs.length c ∧ v = sv ∧ Hid (BS wr w.heap.size v bs) ∧ Hid (Drew W cb w wr))
    case atStart =>
      obtain ⟨p, c, e, _⟩ := owns_slice HBS.out.row
      exact ⟨v, p, c, bs, by have := HL1.out; omega, by have := HL3.out; omega, e, rfl, HBS, HD⟩
    case round =>
      clear HBS HD HL1 HL3
      obtain ⟨v, p, c, bs, hgk, hl4, rfl, rfl, HBS, HD⟩ := hrel
      by_cases hlt : bs.length < 4
      · have d0 : (bs.length : Int) < 4 := by omega
        go_wp2_with fail
        refine (l13Boot_any HD.out.1).mono ?_
        rintro e w3 ⟨p1, c1, ls1, a1, rfl, hl1, ho1, hd⟩
        have hGw : w.heap.size ≤ wr.heap.size := HD.out.2.size
        have HBS := hideP (HBS.out.drew hd hW)
        have HD := hideP (HD.out.trans hd)
        have HO1 : Hid (RowI w3 w.heap.size (.slice p1 4 c1) ls1) := hideP (by unfold RowI; rw [hl1]; exact owns_mono ho1 hGw)
        have HL1 := hideP hl1
        clear hd hl1 ho1
        go_wp2_with (at_builtin; refine wpList_append_rd _ rfl _ _ 26 rfl w.heap.size 45 j0 (.agg #[.slice none 0 0, .slice none 0 0, .int .i64 0, .int .i64 0, .int .i64 0]) 5 72 Try.underlying26 hj hy0 hy1 hy2 rfl (by decide) _ bs.length (bxs bs) rfl (World.ownsRow.alloc HBS.out.row _) _ 1 1 [.slice p1 4 c1, .slice none 0 0, .int .i64 a1.p, .int .i64 a1.r, .int .i64 a1.c] rfl rfl (rd_lit rfl) ?ea ?eb ?ec ?ed ?_)
        case ea => simp [Value.oneCell']
        case eb => unfold maxLen; omega
        case ec => omega
        case ed => have := HD.out.2.size; simp; omega
        intro v9 w9 ho9 hg9
        obtain ⟨p9, c9, rfl, _⟩ := owns_slice ho9
        have hba := below_a1 w3 (.cells #[.slice p1 4 c1, .slice none 0 0, .int .i64 a1.p, .int .i64 a1.r, .int .i64 a1.c] 45)
        have HBA := hideP (HBS.out.below hba)
        have HBS9 : Hid (BS w9 w.heap.size (.slice p9 (bs.length + 1) c9) (bs ++ [(⟨ls1, [], a1⟩, .slice p1 4 c1, .slice none 0 0)])) := hideP (HBA.out.snoc (World.ownsRow.alloc HO1.out _) (owns_nilB _ _ _ _) ⟨by have := HL1.out; simp; omega, by simp⟩ ho9 rfl hg9)
        have HD9 := hideP ((HD.out.below hba).own hg9 hW (fun q e => (HBA.out.row.lt q e).1))
        have hl9 : (bs ++ [(⟨ls1, [], a1⟩, .slice p1 4 c1, .slice none 0 0)] : List (Boot × Value × Value)).length = bs.length + 1 := by simp
        clear ho9 hg9 hba HBA HBS HD HO1 HL1
        go_wp2
        go_roundg (gk - 1)
        case measure => omega
        case rel => exact ⟨_, _, _, _, by rw [hl9]; omega, by rw [hl9]; omega, by rw [hl9], rfl, HBS9, HD9⟩
      · have d0 : ¬ ((bs.length : Int) < 4) := by omega
        go_wp2
        go_ret
        exact ⟨_, bs, rfl, HBS.out, hl4, HD.out⟩
  · obtain ⟨g, n, c, x, vl, vo, bs', rfl, rfl, hg1, hg2, hn1⟩ := HBS.out.first hlen
    have HL4 := hideP hlen3
    have n1 : (0 : Int) < (n : Int) := by omega
    clear hlen hlen3
    go_wp2_with fail
    refine (l3Any_any HD.out.1).mono ?_
    rintro e w3 ⟨pl, nl, cl, ls, rfl, hnl, hnl5, ho, hd⟩
    have hG3 : w.heap.size ≤ w2.heap.size := HD.out.2.size
    have HBS := hideP (HBS.out.drew hd hW)
    have HD := hideP (HD.out.trans hd)
    have HO : Hid (RowI w3 w.heap.size (.slice pl nl cl) ls) := hideP (by unfold RowI; rw [← hnl]; exact owns_mono ho (by omega))
    have HN : Hid (ls.length ≤ 5) := hideP (by omega)
    clear hnl hnl5 ho
    obtain ⟨c0, c1, c2, c3, c4, hf⟩ := HBS.out.ats
    have f0 := hf 0 (by omega)
    have f1 := hf 1 (by omega)
    have f2 := hf 2 (by omega)
    have f3 := hf 3 (by omega)
    have f4 := hf 4 (by omega)
    clear hf hd
    have HBS9 := hideP (HBS.out.hitL HO.out HN.out)
    have HD9 := hideP (HD.out.set (g := g) (i := 0) (v := .slice pl nl cl) hW hg1)
    clear HBS HD
    go_wp2
    go_ret
    exact ⟨_, _, rfl, HBS9.out, by have := HL4.out; simp only [List.length_cons] at this ⊢; omega, HD9.out⟩
  · obtain ⟨g, n, c, x, vl, vo, bs', rfl, rfl, hg1, hg2, hn1⟩ := HBS.out.first hlen
    have HL4 := hideP hlen3
    have n1 : (0 : Int) < (n : Int) := by omega
    clear hlen hlen3
    go_wp2_with fail
    refine (l5Any_any HD.out.1).mono ?_
    rintro e w3 ⟨a, rfl, hd⟩
    have hG3 : w.heap.size ≤ w2.heap.size := HD.out.2.size
    have HBS := hideP (HBS.out.drew hd hW)
    have HD := hideP (HD.out.trans hd)
    
    obtain ⟨c0, c1, c2, c3, c4, hf⟩ := HBS.out.ats
    have f0 := hf 0 (by omega)
    have f1 := hf 1 (by omega)
    have f2 := hf 2 (by omega)
    have f3 := hf 3 (by omega)
    have f4 := hf 4 (by omega)
    clear hf hd
    have HBS9 := hideP (HBS.out.hitA a)
    have HD9 := hideP (((HD.out.set (g := g) (i := 2) (v := .int .i64 a.p) hW hg1).set (g := g) (i := 3) (v := .int .i64 a.r) hW hg1).set (g := g) (i := 4) (v := .int .i64 a.c) hW hg1)
    clear HBS HD
    go_wp2
    go_ret
    exact ⟨_, _, rfl, HBS9.out, by have := HL4.out; simp only [List.length_cons] at this ⊢; omega, HD9.out⟩
  · obtain ⟨g, n, c, x, vl, vo, bs', rfl, rfl, hg1, hg2, hn1⟩ := HBS.out.first hlen
    have HL4 := hideP hlen3
    have n1 : (0 : Int) < (n : Int) := by omega
    clear hlen hlen3
    go_wp2_with fail
    refine (l4Own_any HD.out.1).mono ?_
    rintro e w3 ⟨vn, ls, rfl, hnl5, ho, hd⟩
    have hG3 : w.heap.size ≤ w2.heap.size := HD.out.2.size
    have HBS := hideP (HBS.out.drew hd hW)
    have HD := hideP (HD.out.trans hd)
    obtain ⟨pn, cn, rfl, _⟩ := owns_slice ho
    have HO : Hid (RowI w3 w.heap.size (.slice pn ls.length cn) ls) := hideP (owns_mono ho (by omega))
    have HN := hideP hnl5
    clear hnl5 ho
    obtain ⟨c0, c1, c2, c3, c4, hf⟩ := HBS.out.ats
    have f0 := hf 0 (by omega)
    have f1 := hf 1 (by omega)
    have f2 := hf 2 (by omega)
    have f3 := hf 3 (by omega)
    have f4 := hf 4 (by omega)
    clear hf hd
    have HBS9 := hideP (HBS.out.hitO HO.out HN.out)
    have HD9 := hideP (HD.out.set (g := g) (i := 1) (v := .slice pn ls.length cn) hW hg1)
    clear HBS HD
    go_wp2
    go_ret
    exact ⟨_, _, rfl, HBS9.out, by have := HL4.out; simp only [List.length_cons] at this ⊢; omega, HD9.out⟩
  · have d0 : (y == 0) = false := by simp; omega
    have d1 : (y == 1) = false := by simp; omega
    have d2 : (y == 2) = false := by simp; omega
    have d3 : (y == 3) = false := by simp; omega
    have d4 : (y == 4) = false := by simp; omega
    go_wp2
    go_ret
    exact ⟨v, bs, rfl, HBS.out, by omega, HD.out⟩

end Go.Proofs.Ytnchmenpgmlpdaa
