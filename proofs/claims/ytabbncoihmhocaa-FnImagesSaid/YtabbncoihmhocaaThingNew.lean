/- l8New of the reference: a thing drawn. -/
import Derived.Test.YtabbncoihmhocaaArenaPut
import Derived.Deep.RegionLaw
import Derived.Deep.AppendLies
import Derived.ChangeAlike
import Derived.Deep.DeepCutAuto
import Derived.Deep.LoopGhost
namespace Go.Proofs.Ytabbncoihmhocaa
open Go.RowKit

theorem RI.cells {w : World} {B g n c : Nat} {ls : List Int} (h : w.ownsRow B 3 1 (.slice (some ⟨g, 0, none⟩) n c) ls.length (icell ls)) : ∀ j y, ls[j]? = some y → w.cell? ⟨g, j, none⟩ = some (.int .i64 y) := by
  intro j y hy
  obtain ⟨g', c', cs, e, _, _, _, hc, _⟩ := RI.block h (by have := (List.getElem?_eq_some_iff.1 hy).1; omega)
  cases e
  exact hc j y hy
def DrawnA (W : World) (cb : Nat) (w : World) (e : Ending) (w' : World) : Prop := ∃ x : Int, e = .returned (.int .i64 x) ∧ Drew W cb w w'
set_option maxRecDepth 100000 in
set_option maxHeartbeats 4000000 in
theorem de_pickR (ls : List Int) (g k kc : Nat) (hk : k = ls.length) (hk1 : 1 ≤ k) (hk2 : k ≤ 256) {W w : World} {cb : Nat} (h : DE W cb w) (hg : ∀ j y, ls[j]? = some y → w.cell? ⟨g, j, none⟩ = some (.int .i64 y)) (hgc : g ≠ cb) :
    Calls Try.prog 47 #[.pointer (some ⟨cb, 0, none⟩), .slice (some ⟨g, 0, none⟩) k kc] w (DrawnA W cb w) := by
  have Hk := Lib.hid hk
  have HG := hideP hg
  clear hk hg
  go_enter Try.func47, Try.ntmps47
  go_wp2_with fail
  refine (de_below k (by omega) (by omega) h).mono ?_
  rintro e w1 ⟨x, rfl, x0, x1, hd⟩
  obtain ⟨q, rfl⟩ := Int.eq_ofNat_of_zero_le x0
  have hq : q < k := by omega
  obtain ⟨y, hy⟩ := some_at (l := ls) (k := q) (by have := Hk.out; omega)
  have c1 := hd.2.cell (HG.out q y hy) (by simpa using hgc)
  have HD := hideP hd
  clear hd
  go_wp2
  go_ret
  exact ⟨y, rfl, HD.out⟩
/-- Behind the first draws: the result's cell, the row of the living. -/
structure N0 (W : World) (cb : Nat) (w : World) (v : Value) (ls : List Int) (w' : World) : Prop where
  r : Blk w' w.heap.size 34 [.int .i64 0, .int .i64 0, .int .i64 0, .int .i64 0, .int .i64 0, .int .i64 0, .int .i64 0, .int .i64 0, .int .i64 0, .bool false, .slice none 0 0, .slice none 0 0, .slice none 0 0]
  live : RI w' w.heap.size v ls
  d : Drew W cb w w'
  hW : W.heap.size ≤ w.heap.size
theorem N0.drew {W w w1 w2 : World} {cb : Nat} {v : Value} {ls : List Int} (h : N0 W cb w v ls w1) (hd : Drew W cb w1 w2) : N0 W cb w v ls w2 := ⟨hd.blk h.r h.hW, hd.owns h.live h.hW, h.d.trans hd, h.hW⟩
theorem N0.below {W w w1 w2 : World} {cb : Nat} {v : Value} {ls : List Int} (h : N0 W cb w v ls w1) (hb : Below w1.heap.size w1 w2) : N0 W cb w v ls w2 := ⟨h.r.below hb, owns_below h.live (Nat.le_refl _) hb, h.d.below hb, h.hW⟩
structure NS (W : World) (cb : Nat) (w : World) (O : Nat) (v : Value) (ls : List Int) (x : TE) (w' : World) : Prop where
  n : N0 W cb w v ls w'
  o : Blk w' O 34 x.enc
  e : TEOk w' w.heap.size 100 true x
  hO : w.heap.size < O
section
variable {W w w1 w2 : World} {cb O : Nat} {v : Value} {ls : List Int} {x : TE}
theorem NS.drew (h : NS W cb w O v ls x w1) (hd : Drew W cb w1 w2) : NS W cb w O v ls x w2 := ⟨h.n.drew hd, hd.blk h.o (Nat.le_of_lt (Nat.lt_of_le_of_lt h.n.hW h.hO)), h.e.drew hd h.n.hW, h.hO⟩
theorem NS.below (h : NS W cb w O v ls x w1) (hb : Below w1.heap.size w1 w2) : NS W cb w O v ls x w2 := ⟨h.n.below hb, h.o.below hb, h.e.below hb, h.hO⟩
theorem NS.field {j : Nat} {u : Value} {x' : TE} (h : NS W cb w O v ls x w1) (he : x'.enc = x.enc.set j u) (h' : TEOk w1 w.heap.size 100 true x') : NS W cb w O v ls x' (w1.setCell ⟨O, j, none⟩ u) :=
  ⟨⟨h.n.r.other j u (Nat.ne_of_lt h.hO), (keptSet w1 O j u).owns h.n.live (rowNe h.n.live h.o (by decide)), h.n.d.set h.n.hW (Nat.le_of_lt h.hO), h.n.hW⟩, by rw [he]; exact h.o.set j u, h'.other h.o (by decide) (by decide), h.hO⟩
theorem NS.put {g j : Nat} {z : Int} {cs : List Value} (h : NS W cb w O v ls x w1) (hB : Blk w1 g 3 cs) (hg : w.heap.size ≤ g) : NS W cb w O v (if v.ownBlock = some g then ls.set j z else ls) (setTE g j z x) (w1.setCell ⟨g, j, none⟩ (.int .i64 z)) := by
  have hne : O ≠ g := fun e => by subst e; have := h.o; unfold Blk at this hB; rw [this] at hB; injection hB with hB; injection hB with _ hB; exact absurd hB (by decide)
  have hne2 : w.heap.size ≠ g := fun e => by have := h.n.r; rw [e] at this; unfold Blk at this hB; rw [this] at hB; injection hB with hB; injection hB with _ hB; exact absurd hB (by decide)
  exact ⟨⟨h.n.r.other j _ hne2, h.n.live.put, h.n.d.set h.n.hW hg, h.n.hW⟩, by rw [setTE_enc]; exact h.o.other j _ hne, h.e.put hB, h.hO⟩
/-- More memory of one's own, a row of it longer. -/
theorem NS.grown {r : Option Nat} (h : NS W cb w O v ls x w1) (hg : w1.grownBy w2 r) (h1 : ∀ q, r = some q → w.heap.size ≤ q) (h2 : ∀ {T : TypeId} {q : Nat} {cs : List Value}, Blk w1 q T cs → T = 34 → r ≠ some q) (h3 : ∀ {u : Value} {l : List Int}, RI w1 w.heap.size u l → RI w2 w.heap.size u l) (h4 : RM w1 w.heap.size x.q x.t.queue → RM w2 w.heap.size x.q x.t.queue) : NS W cb w O v ls x w2 :=
  ⟨⟨(KeptP.of_grown hg).blk h.n.r (fun e => h2 h.n.r rfl e), h3 h.n.live, h.n.d.own hg h.n.hW h1, h.n.hW⟩, (KeptP.of_grown hg).blk h.o (fun e => h2 h.o rfl e), ⟨h3 h.e.l, h3 h.e.d, h4 h.e.q, h.e.s⟩, h.hO⟩
end
theorem NS.data {W w w1 w2 : World} {cb O : Nat} {v : Value} {ls : List Int} {t : Thing} {L D Q D' : Value} {ls' : List Int} (h : NS W cb w O v ls ⟨t, L, D, Q⟩ w1) (hg : w1.grownBy w2 D.ownBlock) (hD : RI w1 (O + 1) D t.data) (hv : ∀ q, v.ownBlock = some q → q < O) (hL : ∀ q, L.ownBlock = some q → q < O) (ho : RI w2 (O + 1) D' ls') (hs : ls'.length ≤ 100) :
    NS W cb w O v ls ⟨{ t with data := ls' }, L, D', Q⟩ (w2.setCell ⟨O, 11, none⟩ D') ∧ RI (w2.setCell ⟨O, 11, none⟩ D') (O + 1) D' ls' := by
  have k := KeptP.of_grown hg
  have hO := h.hO
  have hW := h.n.hW
  have r2 := k.blk h.n.r (fun e => rowNe hD h.n.r (by decide) _ e rfl)
  have o2 := k.blk h.o (fun e => rowNe hD h.o (by decide) _ e rfl)
  have l2 := k.owns h.n.live (fun q e e' => by have := hv q e; have := (hD.lt q e').1; omega)
  have m2 : RI w2 w.heap.size L t.links := k.owns h.e.l (fun q e e' => by have := hL q e; have := (hD.lt q e').1; omega)
  have q2 : RM w2 w.heap.size Q t.queue := k.owns h.e.q (fun q e e' => rowNe2 h.e.q hD (by decide) q e e')
  have d2 := h.n.d.own hg hW (fun q e => by have := (hD.lt q e).1; omega)
  have e2 : TEOk w2 w.heap.size 100 true ⟨{ t with data := ls' }, L, D', Q⟩ := ⟨m2, owns_mono ho (by omega), q2, ⟨h.e.s.l, hs, h.e.s.q, h.e.s.w, h.e.s.k⟩⟩
  exact ⟨⟨⟨r2.other 11 D' (by omega), (keptSet w2 O 11 D').owns l2 (rowNe l2 o2 (by decide)), d2.set hW (by omega), hW⟩, o2.set 11 D', e2.other o2 (by decide) (by decide), hO⟩, (keptSet w2 O 11 D').owns ho (rowNe ho o2 (by decide))⟩
theorem NS.queue {W w w1 w2 : World} {cb O : Nat} {v : Value} {ls : List Int} {t : Thing} {L D Q Q' : Value} {ls' : List Msg} (h : NS W cb w O v ls ⟨t, L, D, Q⟩ w1) (hg : w1.grownBy w2 Q.ownBlock) (hQ : RM w1 (O + 1) Q t.queue) (ho : RM w2 (O + 1) Q' ls') (hs : ls'.length ≤ 100) :
    NS W cb w O v ls ⟨{ t with queue := ls' }, L, D, Q'⟩ (w2.setCell ⟨O, 12, none⟩ Q') ∧ RM (w2.setCell ⟨O, 12, none⟩ Q') (O + 1) Q' ls' := by
  have k := KeptP.of_grown hg
  have hO := h.hO
  have hW := h.n.hW
  have r2 := k.blk h.n.r (fun e => rowNe hQ h.n.r (by decide) _ e rfl)
  have o2 := k.blk h.o (fun e => rowNe hQ h.o (by decide) _ e rfl)
  have l2 := k.owns h.n.live (fun q e e' => rowNe2 h.n.live hQ (by decide) q e e')
  have m2 : RI w2 w.heap.size L t.links := k.owns h.e.l (fun q e e' => rowNe2 h.e.l hQ (by decide) q e e')
  have q2 : RI w2 w.heap.size D t.data := k.owns h.e.d (fun q e e' => rowNe2 h.e.d hQ (by decide) q e e')
  have d2 := h.n.d.own hg hW (fun q e => by have := (hQ.lt q e).1; omega)
  have e2 : TEOk w2 w.heap.size 100 true ⟨{ t with queue := ls' }, L, D, Q'⟩ := ⟨m2, q2, owns_mono ho (by omega), ⟨h.e.s.l, h.e.s.d, hs, h.e.s.w, h.e.s.k⟩⟩
  exact ⟨⟨⟨r2.other 12 Q' (by omega), (keptSet w2 O 12 Q').owns l2 (rowNe l2 o2 (by decide)), d2.set hW (by omega), hW⟩, o2.set 12 Q', e2.other o2 (by decide) (by decide), hO⟩, (keptSet w2 O 12 Q').owns ho (rowNe ho o2 (by decide))⟩
theorem linkCell {w : World} {B g n c j : Nat} {ls : List Int} (h : RI w B (.slice (some ⟨g, 0, none⟩) n c) ls) (hj : j < ls.length) : (∃ z, w.cell? ⟨g, j, none⟩ = some (.int .i64 z)) ∧ w.frozen? ⟨g, j, none⟩ = false ∧ B ≤ g ∧ ∃ cs, Blk w g 3 cs := by
  obtain ⟨g', c', cs, e, hb, _, hB, hc, hf⟩ := h.block (by omega)
  have hG : g = g' := by injection e with a; injection a with a; injection a
  subst hG
  obtain ⟨z, hz⟩ := some_at hj
  exact ⟨⟨z, hc j z hz⟩, hf j, hb, cs, hB⟩
theorem sm_new (K x2 x3 x4 x5 : Int) (b : Bool) : Sm 100 true ⟨0, K, x2, x3, x4, x5, 0, 0, 0, b, [-1, -1], [], []⟩ := ⟨Nat.le_add_left 2 98, Nat.zero_le _, Nat.zero_le _, (show I64 0 by unfold I64; decide), fun _ _ => Nat.le_refl 2⟩
theorem ri_nil {w : World} {B : Nat} {ls : List Int} (h : RI w B (.slice none 0 0) ls) : ls = [] := by
  rcases h.2 with ⟨_, h0⟩ | ⟨_, _, _, h0, _⟩
  · exact List.eq_nil_of_length_eq_zero h0
  · cases h0
theorem rm_nil {w : World} {B : Nat} {ls : List Msg} (h : RM w B (.slice none 0 0) ls) : ls = [] := by
  rcases h.2 with ⟨_, h0⟩ | ⟨_, _, _, h0, _⟩
  · exact List.eq_nil_of_length_eq_zero h0
  · cases h0
set_option maxRecDepth 100000 in
set_option maxHeartbeats 4000000 in
theorem l8New_any {W w : World} {cb B M n c : Nat} {lk : Bool} {p : Option Addr} {ts : List TE} (h : DE W cb w) (ht : TS w B M lk (.slice p n c) n ts) (hB : W.heap.size ≤ B) (hn : n ≤ 10) :
    Calls Try.prog 65 #[.pointer (some ⟨cb, 0, none⟩), .slice p n c] w fun e w' => ∃ (ob : Thing) (vl vd vq : Value), e = .returned (.agg #[.int .i64 ob.gen, .int .i64 ob.kind, .int .i64 ob.box, .int .i64 ob.res, .int .i64 ob.til, .int .i64 ob.pages, .int .i64 ob.wait, .int .i64 ob.got, .int .i64 ob.ran, .bool ob.mark, vl, vd, vq]) ∧ TEOk w' w.heap.size 100 true ⟨ob, vl, vd, vq⟩ ∧ Drew W cb w w' := by
  obtain ⟨i0, hi, hz0, hz1, hz2⟩ := info_parts Try.infoIntB
  obtain ⟨jm, hjm, hym0, hym1, hym2⟩ := info_parts Try.infoMsg
  have hW := h.lt.2
  have hcb := h.lt.1
  have HT := hideP ht
  have HN0 : Hid (N0 W cb w (.slice (some ⟨w.heap.size + 1, 0, none⟩) 1 1) [-1] ((w.alloc (.cells #[.int .i64 0, .int .i64 0, .int .i64 0, .int .i64 0, .int .i64 0, .int .i64 0, .int .i64 0, .int .i64 0, .int .i64 0, .bool false, .slice none 0 0, .slice none 0 0, .slice none 0 0] 34)).alloc (.cells #[.int .i64 (-1)] 3))) := hideP ⟨(Blk.new w #[.int .i64 0, .int .i64 0, .int .i64 0, .int .i64 0, .int .i64 0, .int .i64 0, .int .i64 0, .int .i64 0, .int .i64 0, .bool false, .slice none 0 0, .slice none 0 0, .slice none 0 0] 34).alloc _, owns_lit (by simp) (by simp) (by decide) rfl rfl, (Drew.refl h).below (below_a2 _ _ _), hW⟩
  clear h ht
  go_enter Try.func65, Try.ntmps65
  go_upto_region 2 with fail
  obtain ⟨w0, hw0⟩ : ∃ w0, w0 = (w.alloc (.cells #[.int .i64 0, .int .i64 0, .int .i64 0, .int .i64 0, .int .i64 0, .int .i64 0, .int .i64 0, .int .i64 0, .int .i64 0, .bool false, .slice none 0 0, .slice none 0 0, .slice none 0 0] 34)).alloc (.cells #[.int .i64 (-1)] 3) := ⟨_, rfl⟩
  rw [← hw0] at HN0 ⊢
  clear hw0
  go_wp2
  go_loopg [5, 6] (n + 1) (fun gk v iv wr => ∃ (k : Nat) (ls : List Int), n < gk + k ∧ k ≤ n ∧ 1 ≤ ls.length ∧ ls.length ≤ 2 * k + 1 ∧ iv = .int .i64 (k : Int) ∧ Hid (N0 W cb w v ls wr))
  case atStart => exact ⟨0, [-1], by omega, by omega, by decide, by decide, rfl, HN0⟩
  case round =>
    clear HN0
    obtain ⟨k, ls, hgk, hk, hl1, hl2, rfl, HN⟩ := hrel
    by_cases hlt : k < n
    · obtain ⟨⟨t, ul, ud, uq⟩, hy⟩ := some_at (l := ts) (k := k) (by have := HT.out.len; omega)
      have HT2 := hideP (HT.out.drew HN.out.d hB)
      obtain ⟨g, cv, cs, e, hgB, hgl, _⟩ := HT2.out.block (by omega)
      cases e
      have a1 := (HT2.out.cell hy (j := 1) rfl).1
      dsimp only at a1
      have k0 : (0 : Int) ≤ (k : Int) := by omega
      have k1 : (k : Int) < (n : Int) := by omega
      clear hy
      by_cases hz : t.kind = 0
      · have dz : (t.kind != 0) = false := by simp [hz]
        clear hz
        go_wp2
        go_roundg (gk - 1)
        case measure => omega
        case rel => exact ⟨k + 1, ls, by omega, by omega, hl1, by omega, by go_num, HN⟩
      · have dz : (t.kind != 0) = true := by simp [hz]
        clear hz
        go_wp2_with (at_builtin; refine wpList_append_rd _ rfl _ _ 31 rfl w.heap.size 3 i0 (.int .i64 0) 1 8 Try.underlying31 hi hz0 hz1 hz2 rfl (by decide) _ ls.length _ rfl (World.ownsRow.alloc HN.out.live _) _ 2 2 [.int .i64 (k : Int), .int .i64 (k : Int)] rfl rfl (rd_litg (by rfl) rfl) ?c1 ?c2 ?c3 ?c4 ?_)
        case c1 => simp [Value.oneCell']
        case c2 => unfold maxLen; omega
        case c3 => omega
        case c4 => have := HN.out.d.2.size; simp; omega
        intro v9 w9 ho9 hg9
        have hba := below_a1 wr (.cells #[.int .i64 (k : Int), .int .i64 (k : Int)] 3)
        have HNa := hideP (HN.out.below hba)
        have HN9 : Hid (N0 W cb w v9 (ls ++ [(k : Int), (k : Int)]) w9) := hideP ⟨(KeptP.of_grown hg9).blk HNa.out.r (fun e => rowNe HNa.out.live HNa.out.r (by decide) _ e rfl), by unfold RI; rw [List.length_append, show icell (ls ++ [(k : Int), (k : Int)]) = icell ls ++ [.int .i64 (k : Int), .int .i64 (k : Int)] by simp [icell]]; exact ho9, HNa.out.d.own hg9 hW (fun q e => (HNa.out.live.lt q e).1), hW⟩
        have hl9 : (ls ++ [(k : Int), (k : Int)]).length = ls.length + 2 := by simp
        clear ho9 hg9 hba HNa
        go_wp2
        go_roundg (gk - 1)
        case measure => omega
        case rel => exact ⟨k + 1, _, by omega, by omega, by rw [hl9]; omega, by rw [hl9]; omega, by go_num, HN9⟩
    · have hkn : k = n := by omega
      clear hkn
      obtain ⟨gl, cl, cs, e, hglB, hgll, hBL, hcl, hfl⟩ := HN.out.live.block (by omega)
      subst e
      go_wp2_with fail
      refine (de_below 4 (by omega) (by omega) HN.out.d.1).mono ?_
      rintro e w1 ⟨x1, rfl, x10, x11, hd⟩
      have HN := hideP (HN.out.drew hd)
      clear hd
      go_wp2_with fail
      refine (de_pickR ls gl _ cl rfl hl1 (by omega) HN.out.d.1 (RI.cells HN.out.live) (by omega)).mono ?_
      rintro e w2 ⟨x2, rfl, hd⟩
      have HN := hideP (HN.out.drew hd)
      clear hd
      go_wp2_with fail
      refine (de_below 5 (by omega) (by omega) HN.out.d.1).mono ?_
      rintro e w3 ⟨x3, rfl, x30, x31, hd⟩
      have HN := hideP (HN.out.drew hd)
      clear hd
      go_wp2_with fail
      refine (de_below 30 (by omega) (by omega) HN.out.d.1).mono ?_
      rintro e w4 ⟨x4, rfl, x40, x41, hd⟩
      have HN := hideP (HN.out.drew hd)
      clear hd
      go_wp2_with fail
      refine (de_below 4 (by omega) (by omega) HN.out.d.1).mono ?_
      rintro e w5 ⟨x5, rfl, x50, x51, hd⟩
      have HN := hideP (HN.out.drew hd)
      clear hd
      go_wp2_with fail
      have hba := below_a1 w5 (.cells #[.int .i64 (-1), .int .i64 (-1)] 3)
      have HLK : Hid (RI (w5.alloc (.cells #[.int .i64 (-1), .int .i64 (-1)] 3)) w.heap.size (.slice (some ⟨w5.heap.size, 0, none⟩) 2 2) [-1, -1]) := hideP (owns_lit HN.out.d.2.size rfl (by decide) rfl rfl)
      have HN := hideP (HN.out.below hba)
      clear hba
      refine (de_onceB 3 (by omega) (by omega) HN.out.d.1).mono ?_
      rintro e w6 ⟨b, rfl, hd⟩
      have HN := hideP (HN.out.drew hd)
      have HLK := hideP (hd.owns HLK.out hW)
      clear hd
      go_upto_region 8 with fail
      obtain ⟨K, hK⟩ : ∃ K : Int, K = 1 + x1 := ⟨_, rfl⟩
      rw [← hK]
      obtain ⟨w7, hw7⟩ : ∃ z, z = w6.alloc (.cells #[.int .i64 0, .int .i64 K, .int .i64 x2, .int .i64 x3, .int .i64 (1 + x4), .int .i64 x5, .int .i64 0, .int .i64 0, .int .i64 0, .bool b, .slice (some ⟨w5.heap.size, 0, none⟩) 2 2, .slice none 0 0, .slice none 0 0] 34) := ⟨_, rfl⟩
      have HS : Hid (NS W cb w w6.heap.size (.slice (some ⟨gl, 0, none⟩) ls.length cl) ls ⟨⟨0, K, x2, x3, 1 + x4, x5, 0, 0, 0, b, [-1, -1], [], []⟩, .slice (some ⟨w5.heap.size, 0, none⟩) 2 2, .slice none 0 0, .slice none 0 0⟩ w7) := hideP (by
        rw [hw7]
        exact ⟨HN.out.below (below_a1 w6 _), Blk.new w6 _ _, TEOk.below ⟨HLK.out, owns_nilB _ _ _ _, owns_nilB _ _ _ _, sm_new K x2 x3 (1 + x4) x5 b⟩ (below_a1 w6 _), by have := HN.out.r.lt; omega⟩)
      rw [← hw7]
      have hglO : gl < w6.heap.size := (HN.out.live.lt gl rfl).2
      have hG2O : w5.heap.size < w6.heap.size := (HLK.out.lt _ rfl).2
      have hK1 : 1 ≤ K ∧ K ≤ 4 := by omega
      obtain ⟨O, hO⟩ : ∃ O, O = w6.heap.size := ⟨_, rfl⟩
      obtain ⟨G2, hG2⟩ : ∃ G, G = w5.heap.size := ⟨_, rfl⟩
      obtain ⟨LL, hLL⟩ : ∃ LL, LL = ls.length := ⟨_, rfl⟩
      rw [← hO] at hglO hG2O
      rw [← hG2] at hG2O
      rw [← hO, ← hG2, ← hLL] at HS ⊢
      have HLS : Hid (ls.length = LL) := hideP hLL.symm
      have hLL1 : 1 ≤ LL ∧ LL ≤ 21 := by omega
      clear hLL
      clear hw7 HLK HN hO hG2 hK x10 x11 x30 x31 x40 x41 hBL hcl hfl hgll
      clear HT
      go_wp2
      go_loopg [8] 3 (fun gk iv wr => ∃ (j : Nat) (ls : List Int) (t : Thing), 2 < gk + j ∧ j ≤ 2 ∧ iv = .int .i64 (j : Int) ∧ Hid (t.kind = K) ∧ Hid (t.pages = x5) ∧ Hid (t.links.length = 2) ∧ Hid (ls.length = LL) ∧ Hid (NS W cb w O (.slice (some ⟨gl, 0, none⟩) LL cl) ls ⟨t, .slice (some ⟨G2, 0, none⟩) 2 2, .slice none 0 0, .slice none 0 0⟩ wr))
      case atStart => exact ⟨0, ls, _, by omega, by omega, rfl, hideP rfl, hideP rfl, hideP rfl, HLS, HS⟩
      case round =>
        clear HS HLS
        obtain ⟨j, ls, t, hgj, hj, rfl, HK, HP, HL2, HLS, HS⟩ := hrel
        by_cases hlj : j < 2
        · have j1 : (j : Int) < 2 := by omega
          go_wp2_with fail
          refine (de_onceB 3 (by omega) (by omega) HS.out.n.d.1).mono ?_
          rintro e w8 ⟨b8, rfl, hd⟩
          have HS := hideP (HS.out.drew hd)
          clear hd
          cases b8
          · go_wp2
            go_roundg (gk - 1)
            case measure => omega
            case rel => exact ⟨j + 1, ls, t, by omega, by omega, by go_num, HK, HP, HL2, HLS, HS⟩
          · have hLl : RI w8 w.heap.size (.slice (some ⟨G2, 0, none⟩) 2 2) t.links := HS.out.e.l
            obtain ⟨g2, c2, cs2, e2, hg2, hg2l, hB2, hc2, hf2⟩ := hLl.block (by have := HL2.out; omega)
            have hG : G2 = g2 := by injection e2 with a; injection a with a; injection a
            rw [← hG] at hg2 hB2 hf2 hc2
            clear hG e2 hg2l
            have HB2 := hideP hB2
            have c10 : w8.cell? ⟨O, 10, none⟩ = some (.slice (some ⟨G2, 0, none⟩) 2 2) := (HS.out.o.cell 10).trans rfl
            have LV := hideP (RI.cells (show w8.ownsRow w.heap.size 3 1 (.slice (some ⟨gl, 0, none⟩) ls.length cl) ls.length (icell ls) by have := HS.out.n.live; unfold RI at this; rwa [← HLS.out] at this))
            go_wp2
            go_region_law (go_simp; go_at_call 47; refine (de_pickR _ gl _ cl HLS.out.symm (by omega) (by omega) (show DE W cb w8.drew from HS.out.n.d.1) LV.out (by omega)).mono ?_; rintro e w9 ⟨y, rfl, hd⟩; replace hd := Drew.undrew hd; have HS9 := hideP (HS.out.drew hd); have c9 : w9.cell? ⟨O, 10, none⟩ = some (.slice (some ⟨G2, 0, none⟩) 2 2) := (HS9.out.o.cell 10).trans rfl; obtain ⟨⟨z, e0⟩, fe0, hg2, cs2, hB2⟩ := linkCell HS9.out.e.l (show j < t.links.length by have := HL2.out; omega); have HB2 := hideP hB2; clear hd hB2; go_wp2_with fail)
            all_goals
              have HS10 := hideP (HS9.out.put (j := j) (z := y) HB2.out hg2)
              have HLS10 : Hid ((if (Value.slice (some ⟨gl, 0, none⟩) LL cl).ownBlock = some G2 then ls.set j y else ls).length = LL) := hideP (by rw [← HLS.out]; split <;> simp)
              have HL10 : Hid ((setTE G2 j y ⟨t, .slice (some ⟨G2, 0, none⟩) 2 2, .slice none 0 0, .slice none 0 0⟩).t.links.length = 2) := hideP (by show (if _ then t.links.set j y else t.links).length = 2; rw [← HL2.out]; split <;> simp)
              clear HS HS9 HB2 c9 c10 e0 fe0 LV HLS HL2
              go_wp2
              go_roundg (gk - 1)
              case measure => omega
              case rel => exact ⟨j + 1, _, (setTE G2 j y ⟨t, .slice (some ⟨G2, 0, none⟩) 2 2, .slice none 0 0, .slice none 0 0⟩).t, by omega, by omega, by go_num, HK, HP, HL10, HLS10, HS10⟩
        · have c1 : wr.cell? ⟨O, 1, none⟩ = some (.int .i64 K) := by rw [← HK.out]; exact (HS.out.o.cell 1).trans rfl
          clear HL2 HLS
          by_cases k2 : K = 2
          · have dk2 : (K == 2) = true := by simp [k2]
            clear k2 hK1
            have HRD : Hid (RI wr (O + 1) (.slice none 0 0) t.data) := hideP (by rw [ri_nil HS.out.e.d]; exact owns_nilB _ _ _ _)
            have HDL : Hid (t.data.length = 0) := hideP (by rw [ri_nil HS.out.e.d]; rfl)
            go_wp2
            clear c1
            go_loopg [9] 4 (fun gk iv wr => ∃ (j : Nat) (ls : List Int) (t : Thing) (pd : Option Addr) (cd : Nat), 3 < gk + j ∧ (j : Int) ≤ 3 ∧ iv = .int .i64 (j : Int) ∧ Hid (t.pages = x5) ∧ Hid (t.data.length = j) ∧ Hid (RI wr (O + 1) (.slice pd j cd) t.data) ∧ Hid (NS W cb w O (.slice (some ⟨gl, 0, none⟩) LL cl) ls ⟨t, .slice (some ⟨G2, 0, none⟩) 2 2, .slice pd j cd, .slice none 0 0⟩ wr))
            case atStart => exact ⟨0, ls, t, none, 0, by omega, by omega, rfl, HP, HDL, HRD, HS⟩
            case round =>
              clear HS HRD HDL HP HK
              obtain ⟨j, ls, t, pd, cd, hgj, hj, rfl, HP, HDL, HRD, HS⟩ := hrel
              have c5 : wr.cell? ⟨O, 5, none⟩ = some (.int .i64 x5) := by rw [← HP.out]; exact (HS.out.o.cell 5).trans rfl
              by_cases hlj : (j : Int) < x5
              · have c11 : wr.cell? ⟨O, 11, none⟩ = some (.slice pd j cd) := (HS.out.o.cell 11).trans rfl
                go_wp2
                clear c5
                go_region_law (first | (go_simp; go_at_call 46; refine (de_below 100 (by omega) (by omega) (show DE W cb wr.drew from HS.out.n.d.1)).mono ?_; rintro e w8 ⟨x, rfl, x0, x1', hd⟩; replace hd := Drew.undrew hd; have HS8 := hideP (HS.out.drew hd); have HD8 : Hid (w8.ownsRow (O + 1) 3 1 (.slice pd j cd) j (icell t.data)) := hideP (by have := hd.owns HRD.out (by have := HS.out.hO; omega); rwa [HDL.out] at this); have c8 : w8.cell? ⟨O, 11, none⟩ = some (.slice pd j cd) := (HS8.out.o.cell 11).trans rfl; have hO8 : O + 1 ≤ w8.heap.size := HS8.out.o.lt; have e8 := cell_alloc_keepB c8 (.cells #[.int .i64 x] 3); clear hd; go_wp2_with fail) | (refine step_append_lies _ rfl _ _ 31 rfl (O + 1) 3 i0 (.int .i64 0) 1 8 Try.underlying31 hi hz0 hz1 hz2 rfl (by decide) _ j _ rfl (World.ownsRow.alloc HD8.out _) _ 1 1 [.int .i64 x] rfl rfl (newsB (cs := #[.int .i64 x]) rfl) (by simp [Value.oneCell']) (by decide) (by unfold maxLen; omega) (by omega) (by simp; omega) _ rfl ?_; intro g9 c9 w9 ho9 hg9 hq9 hr9; have HSA := hideP (HS8.out.below (below_a1 w8 (.cells #[.int .i64 x] 3))); have X9 := (KeptP.of_grown hg9).blk HSA.out.o (fun e => rowNe (World.ownsRow.alloc HD8.out (.cells #[.int .i64 x] 3)) HSA.out.o (by decide) _ e rfl); have x9 : w9.cell? ⟨O, 11, none⟩ = some (.slice pd j cd) := (X9.cell 11).trans rfl; have f9 : w9.frozen? ⟨O, 11, none⟩ = false := X9.frozen 11; have O9 := Lib.hid ho9; have G9 := Lib.hid hg9; clear ho9 hg9 hq9 hr9 X9))
                all_goals
                  have HDA : RI (w8.alloc (.cells #[.int .i64 x] 3)) (O + 1) (.slice pd j cd) t.data := by unfold RI; rw [HDL.out]; exact World.ownsRow.alloc HD8.out _
                  have hl9 : (t.data ++ [x]).length = j + 1 := by rw [List.length_append, HDL.out]; rfl
                  have R9 : RI w9 (O + 1) (.slice (some ⟨g9, 0, none⟩) (j + 1) c9) (t.data ++ [x]) := by unfold RI; rw [hl9, show icell (t.data ++ [x]) = icell t.data ++ [.int .i64 x] by simp [icell]]; exact O9.out
                  obtain ⟨q1, q2⟩ := NS.data HSA.out G9.out HDA (fun q e => by cases e; exact hglO) (fun q e => by cases e; exact hG2O) R9 (by omega)
                  have HS9 := hideP q1
                  have HR9 := hideP q2
                  have HL9 := hideP hl9
                  clear q1 q2 R9 HDA O9 G9 HSA x9 f9 HS HS8 HD8 HRD HDL c8 e8 c11 hl9
                  go_wp2
                  go_roundg (gk - 1)
                  case measure => omega
                  case rel => exact ⟨j + 1, ls, { t with data := t.data ++ [x] }, some ⟨g9, 0, none⟩, c9, by omega, by omega, by go_num, HP, HL9, HR9, HS9⟩
              · go_upto_region 28 with fail
                clear c5 HRD HDL HP
                have b0 : wr.cell? ⟨O, 0, none⟩ = some (.int .i64 t.gen) := (HS.out.o.cell 0).trans rfl
                have b1 : wr.cell? ⟨O, 1, none⟩ = some (.int .i64 t.kind) := (HS.out.o.cell 1).trans rfl
                have b2 : wr.cell? ⟨O, 2, none⟩ = some (.int .i64 t.box) := (HS.out.o.cell 2).trans rfl
                have b3 : wr.cell? ⟨O, 3, none⟩ = some (.int .i64 t.res) := (HS.out.o.cell 3).trans rfl
                have b4 : wr.cell? ⟨O, 4, none⟩ = some (.int .i64 t.til) := (HS.out.o.cell 4).trans rfl
                have b5 : wr.cell? ⟨O, 5, none⟩ = some (.int .i64 t.pages) := (HS.out.o.cell 5).trans rfl
                have b6 : wr.cell? ⟨O, 6, none⟩ = some (.int .i64 t.wait) := (HS.out.o.cell 6).trans rfl
                have b7 : wr.cell? ⟨O, 7, none⟩ = some (.int .i64 t.got) := (HS.out.o.cell 7).trans rfl
                have b8 : wr.cell? ⟨O, 8, none⟩ = some (.int .i64 t.ran) := (HS.out.o.cell 8).trans rfl
                have b9 : wr.cell? ⟨O, 9, none⟩ = some (.bool t.mark) := (HS.out.o.cell 9).trans rfl
                have b10 : wr.cell? ⟨O, 10, none⟩ = some (.slice (some ⟨G2, 0, none⟩) 2 2) := (HS.out.o.cell 10).trans rfl
                have b11 : wr.cell? ⟨O, 11, none⟩ = some (.slice pd j cd) := (HS.out.o.cell 11).trans rfl
                have b12 : wr.cell? ⟨O, 12, none⟩ = some (.slice none 0 0) := (HS.out.o.cell 12).trans rfl
                have r0 : wr.cell? ⟨w.heap.size, 0, none⟩ = some (.int .i64 0) := (HS.out.n.r.cell 0).trans rfl
                have fr0 : wr.frozen? ⟨w.heap.size, 0, none⟩ = false := HS.out.n.r.frozen 0
                have r1 : wr.cell? ⟨w.heap.size, 1, none⟩ = some (.int .i64 0) := (HS.out.n.r.cell 1).trans rfl
                have fr1 : wr.frozen? ⟨w.heap.size, 1, none⟩ = false := HS.out.n.r.frozen 1
                have r2 : wr.cell? ⟨w.heap.size, 2, none⟩ = some (.int .i64 0) := (HS.out.n.r.cell 2).trans rfl
                have fr2 : wr.frozen? ⟨w.heap.size, 2, none⟩ = false := HS.out.n.r.frozen 2
                have r3 : wr.cell? ⟨w.heap.size, 3, none⟩ = some (.int .i64 0) := (HS.out.n.r.cell 3).trans rfl
                have fr3 : wr.frozen? ⟨w.heap.size, 3, none⟩ = false := HS.out.n.r.frozen 3
                have r4 : wr.cell? ⟨w.heap.size, 4, none⟩ = some (.int .i64 0) := (HS.out.n.r.cell 4).trans rfl
                have fr4 : wr.frozen? ⟨w.heap.size, 4, none⟩ = false := HS.out.n.r.frozen 4
                have r5 : wr.cell? ⟨w.heap.size, 5, none⟩ = some (.int .i64 0) := (HS.out.n.r.cell 5).trans rfl
                have fr5 : wr.frozen? ⟨w.heap.size, 5, none⟩ = false := HS.out.n.r.frozen 5
                have r6 : wr.cell? ⟨w.heap.size, 6, none⟩ = some (.int .i64 0) := (HS.out.n.r.cell 6).trans rfl
                have fr6 : wr.frozen? ⟨w.heap.size, 6, none⟩ = false := HS.out.n.r.frozen 6
                have r7 : wr.cell? ⟨w.heap.size, 7, none⟩ = some (.int .i64 0) := (HS.out.n.r.cell 7).trans rfl
                have fr7 : wr.frozen? ⟨w.heap.size, 7, none⟩ = false := HS.out.n.r.frozen 7
                have r8 : wr.cell? ⟨w.heap.size, 8, none⟩ = some (.int .i64 0) := (HS.out.n.r.cell 8).trans rfl
                have fr8 : wr.frozen? ⟨w.heap.size, 8, none⟩ = false := HS.out.n.r.frozen 8
                have r9 : wr.cell? ⟨w.heap.size, 9, none⟩ = some (.bool false) := (HS.out.n.r.cell 9).trans rfl
                have fr9 : wr.frozen? ⟨w.heap.size, 9, none⟩ = false := HS.out.n.r.frozen 9
                have r10 : wr.cell? ⟨w.heap.size, 10, none⟩ = some (.slice none 0 0) := (HS.out.n.r.cell 10).trans rfl
                have fr10 : wr.frozen? ⟨w.heap.size, 10, none⟩ = false := HS.out.n.r.frozen 10
                have r11 : wr.cell? ⟨w.heap.size, 11, none⟩ = some (.slice none 0 0) := (HS.out.n.r.cell 11).trans rfl
                have fr11 : wr.frozen? ⟨w.heap.size, 11, none⟩ = false := HS.out.n.r.frozen 11
                have r12 : wr.cell? ⟨w.heap.size, 12, none⟩ = some (.slice none 0 0) := (HS.out.n.r.cell 12).trans rfl
                have fr12 : wr.frozen? ⟨w.heap.size, 12, none⟩ = false := HS.out.n.r.frozen 12
                have K9 := keptSets wr w.heap.size 0 (TE.enc ⟨t, .slice (some ⟨G2, 0, none⟩) 2 2, .slice pd j cd, .slice none 0 0⟩)
                have HE9 := hideP (HS.out.e.kept K9 (riNe HS.out.n.r (by decide)) (rmNe HS.out.n.r (by decide)))
                have HD9 := hideP (HS.out.n.d.own (r := some w.heap.size) (grown_setCells (TE.enc ⟨t, .slice (some ⟨G2, 0, none⟩) 2 2, .slice pd j cd, .slice none 0 0⟩) 0 (World.grownBy.refl wr _)) hW (fun k e => by cases e; exact Nat.le_refl _))
                clear K9 HS
                go_wp2
                refine bodyPost_ret (v := .agg #[.int .i64 t.gen, .int .i64 t.kind, .int .i64 t.box, .int .i64 t.res, .int .i64 t.til, .int .i64 t.pages, .int .i64 t.wait, .int .i64 t.got, .int .i64 t.ran, .bool t.mark, .slice (some ⟨G2, 0, none⟩) 2 2, .slice pd j cd, .slice none 0 0]) (by simp [results, Try.results65, go_sem, r0, r1, r2, r3, r4, r5, r6, r7, r8, r9, r10, r11, r12]) rfl ⟨t, .slice (some ⟨G2, 0, none⟩) 2 2, .slice pd j cd, .slice none 0 0, rfl, ?_, ?_⟩
                · exact HE9.out
                · exact HD9.out

          by_cases k3 : K = 3
          · have dk2 : (K == 2) = false := by simp [k2]
            have dk3 : (K == 3) = true := by simp [k3]
            clear k2 k3 hK1
            have HRQ : Hid (RM wr (O + 1) (.slice none 0 0) t.queue) := hideP (by rw [rm_nil HS.out.e.q]; exact owns_nilB _ _ _ _)
            have HQL : Hid (t.queue.length = 0) := hideP (by rw [rm_nil HS.out.e.q]; rfl)
            go_wp2_with fail
            clear c1
            refine (de_below 3 (by omega) (by omega) HS.out.n.d.1).mono ?_
            rintro e wa ⟨yy, rfl, yy0, yy1, hd⟩
            have HRQ : Hid (RM wa (O + 1) (.slice none 0 0) t.queue) := hideP (hd.owns HRQ.out (by have := HS.out.hO; omega))
            have HS := hideP (HS.out.drew hd)
            obtain ⟨y, rfl⟩ := Int.eq_ofNat_of_zero_le yy0
            have hy2 : y ≤ 2 := by omega
            clear hd yy0 yy1
            go_wp2
            go_loopg [10] 4 (fun gk iv wr => ∃ (y j : Nat) (ls : List Int) (t : Thing) (pq : Option Addr) (cq : Nat), y < gk ∧ y + j ≤ 2 ∧ iv = .int .i64 (y : Int) ∧ Hid (t.queue.length = j) ∧ Hid (RM wr (O + 1) (.slice pq j cq) t.queue) ∧ Hid (NS W cb w O (.slice (some ⟨gl, 0, none⟩) LL cl) ls ⟨t, .slice (some ⟨G2, 0, none⟩) 2 2, .slice none 0 0, .slice pq j cq⟩ wr))
            case atStart => exact ⟨y, 0, ls, t, none, 0, by omega, by omega, rfl, HQL, HRQ, HS⟩
            case round =>
              clear HS HRQ HQL HP HK hy2
              obtain ⟨y, j, ls, t, pq, cq, hgj, hyj, rfl, HQL, HRQ, HS⟩ := hrel
              by_cases hlj : 0 < y
              · have c12 : wr.cell? ⟨O, 12, none⟩ = some (.slice pq j cq) := (HS.out.o.cell 12).trans rfl
                have d0 : (y : Int) > 0 := by omega
                have hcw : cb ≠ wr.heap.size := by have := HS.out.n.d.2.size; omega
                have hOw : O + 1 ≤ wr.heap.size := HS.out.o.lt
                have e7 : (wr.alloc (.cells #[.int .i64 (-1), .int .i64 3, .int .i64 33, .int .i64 36] 3)).cell? ⟨O, 12, none⟩ = some (.slice pq j cq) := cell_alloc_keepB c12 _
                go_wp2
                go_region_law (first | (go_simp; go_at_call 47; refine (de_pick [-1, 3, 33, 36] 4 rfl (by decide) (by decide) (show DE W cb (wr.alloc (.cells #[.int .i64 (-1), .int .i64 3, .int .i64 33, .int .i64 36] 3)).drew from (HS.out.below (below_a1 wr _)).n.d.1) (lit_cells wr [-1, 3, 33, 36] 3) (Ne.symm hcw)).mono ?_; rintro e w8 ⟨x, hx, rfl, hd⟩; replace hd : Drew W cb (wr.alloc (.cells #[.int .i64 (-1), .int .i64 3, .int .i64 33, .int .i64 36] 3)) w8 := ⟨hd.1, ⟨hd.2.os, hd.2.tape, hd.2.output, hd.2.size, hd.2.block⟩⟩; have HS8 := hideP ((HS.out.below (below_a1 wr _)).drew hd); have HQ8 : Hid (RM w8 (O + 1) (.slice pq j cq) t.queue) := hideP (hd.owns (World.ownsRow.alloc HRQ.out _) (by have := HS.out.hO; omega)); have c8 : w8.cell? ⟨O, 12, none⟩ = some (.slice pq j cq) := (HS8.out.o.cell 12).trans rfl; clear hd hx; go_wp2_with fail) | (go_simp; go_at_call 46; refine (de_below 50 (by omega) (by omega) HS8.out.n.d.1).mono ?_; rintro e wb ⟨z, rfl, z0, z1, hd⟩; have HSb := hideP (HS8.out.drew hd); have HQb : Hid (wb.ownsRow (O + 1) 67 2 (.slice pq j cq) j (t.queue.flatMap Msg.enc)) := hideP (by have := hd.owns HQ8.out (by have := HS.out.hO; omega); rwa [HQL.out] at this); have cb8 : wb.cell? ⟨O, 12, none⟩ = some (.slice pq j cq) := (HSb.out.o.cell 12).trans rfl; have hOb : O + 1 ≤ wb.heap.size := HSb.out.o.lt; have eb := cell_alloc_keepB cb8 (.cells #[.int .i64 x, .int .i64 z] 67); clear hd; go_wp2_with fail) | (refine step_append_lies _ rfl _ _ 32 rfl (O + 1) 67 jm (.agg #[.int .i64 0, .int .i64 0]) 2 16 Try.underlying32 hjm hym0 hym1 hym2 rfl (by decide) _ j _ rfl (World.ownsRow.alloc HQb.out _) _ 1 1 (Msg.enc ⟨x, z⟩) rfl rfl (newsB (cs := #[.int .i64 x, .int .i64 z]) rfl) (by simp [Value.oneCell', Msg.enc]) (by decide) (by unfold maxLen; omega) (by omega) (by simp; omega) _ rfl ?_; intro g9 c9 w9 ho9 hg9 hq9 hr9; have HSA := hideP (HSb.out.below (below_a1 wb (.cells #[.int .i64 x, .int .i64 z] 67))); have X9 := (KeptP.of_grown hg9).blk HSA.out.o (fun e => rowNe (World.ownsRow.alloc HQb.out (.cells #[.int .i64 x, .int .i64 z] 67)) HSA.out.o (by decide) _ e rfl); have x9 : w9.cell? ⟨O, 12, none⟩ = some (.slice pq j cq) := (X9.cell 12).trans rfl; have f9 : w9.frozen? ⟨O, 12, none⟩ = false := X9.frozen 12; have O9 := Lib.hid ho9; have G9 := Lib.hid hg9; clear ho9 hg9 hq9 hr9 X9))
                all_goals
                  have HDA : RM (wb.alloc (.cells #[.int .i64 x, .int .i64 z] 67)) (O + 1) (.slice pq j cq) t.queue := by unfold RM; rw [HQL.out]; exact World.ownsRow.alloc HQb.out _
                  have hl9 : (t.queue ++ [(⟨x, z⟩ : Msg)]).length = j + 1 := by rw [List.length_append, HQL.out]; rfl
                  have R9 : RM w9 (O + 1) (.slice (some ⟨g9, 0, none⟩) (j + 1) c9) (t.queue ++ [(⟨x, z⟩ : Msg)]) := by unfold RM; rw [hl9, show (t.queue ++ [(⟨x, z⟩ : Msg)]).flatMap Msg.enc = t.queue.flatMap Msg.enc ++ Msg.enc ⟨x, z⟩ by simp]; exact O9.out
                  obtain ⟨q1, q2⟩ := NS.queue HSA.out G9.out HDA R9 (by omega)
                  have HS9 := hideP q1
                  have HR9 := hideP q2
                  have HL9 := hideP hl9
                  clear q1 q2 R9 HDA O9 G9 HSA x9 f9 HS HS8 HSb HQ8 HQb HRQ HQL c8 cb8 eb e7 c12 hl9
                  go_wp2
                  go_roundg (gk - 1)
                  case measure => omega
                  case rel => exact ⟨y - 1, j + 1, ls, { t with queue := t.queue ++ [(⟨x, z⟩ : Msg)] }, some ⟨g9, 0, none⟩, c9, by omega, by omega, by go_num, HL9, HR9, HS9⟩
              · have d0 : ¬ ((y : Int) > 0) := by omega
                go_upto_region 28 with fail
                clear HRQ HQL
                have b0 : wr.cell? ⟨O, 0, none⟩ = some (.int .i64 t.gen) := (HS.out.o.cell 0).trans rfl
                have b1 : wr.cell? ⟨O, 1, none⟩ = some (.int .i64 t.kind) := (HS.out.o.cell 1).trans rfl
                have b2 : wr.cell? ⟨O, 2, none⟩ = some (.int .i64 t.box) := (HS.out.o.cell 2).trans rfl
                have b3 : wr.cell? ⟨O, 3, none⟩ = some (.int .i64 t.res) := (HS.out.o.cell 3).trans rfl
                have b4 : wr.cell? ⟨O, 4, none⟩ = some (.int .i64 t.til) := (HS.out.o.cell 4).trans rfl
                have b5 : wr.cell? ⟨O, 5, none⟩ = some (.int .i64 t.pages) := (HS.out.o.cell 5).trans rfl
                have b6 : wr.cell? ⟨O, 6, none⟩ = some (.int .i64 t.wait) := (HS.out.o.cell 6).trans rfl
                have b7 : wr.cell? ⟨O, 7, none⟩ = some (.int .i64 t.got) := (HS.out.o.cell 7).trans rfl
                have b8 : wr.cell? ⟨O, 8, none⟩ = some (.int .i64 t.ran) := (HS.out.o.cell 8).trans rfl
                have b9 : wr.cell? ⟨O, 9, none⟩ = some (.bool t.mark) := (HS.out.o.cell 9).trans rfl
                have b10 : wr.cell? ⟨O, 10, none⟩ = some (.slice (some ⟨G2, 0, none⟩) 2 2) := (HS.out.o.cell 10).trans rfl
                have b11 : wr.cell? ⟨O, 11, none⟩ = some (.slice none 0 0) := (HS.out.o.cell 11).trans rfl
                have b12 : wr.cell? ⟨O, 12, none⟩ = some (.slice pq j cq) := (HS.out.o.cell 12).trans rfl
                have r0 : wr.cell? ⟨w.heap.size, 0, none⟩ = some (.int .i64 0) := (HS.out.n.r.cell 0).trans rfl
                have fr0 : wr.frozen? ⟨w.heap.size, 0, none⟩ = false := HS.out.n.r.frozen 0
                have r1 : wr.cell? ⟨w.heap.size, 1, none⟩ = some (.int .i64 0) := (HS.out.n.r.cell 1).trans rfl
                have fr1 : wr.frozen? ⟨w.heap.size, 1, none⟩ = false := HS.out.n.r.frozen 1
                have r2 : wr.cell? ⟨w.heap.size, 2, none⟩ = some (.int .i64 0) := (HS.out.n.r.cell 2).trans rfl
                have fr2 : wr.frozen? ⟨w.heap.size, 2, none⟩ = false := HS.out.n.r.frozen 2
                have r3 : wr.cell? ⟨w.heap.size, 3, none⟩ = some (.int .i64 0) := (HS.out.n.r.cell 3).trans rfl
                have fr3 : wr.frozen? ⟨w.heap.size, 3, none⟩ = false := HS.out.n.r.frozen 3
                have r4 : wr.cell? ⟨w.heap.size, 4, none⟩ = some (.int .i64 0) := (HS.out.n.r.cell 4).trans rfl
                have fr4 : wr.frozen? ⟨w.heap.size, 4, none⟩ = false := HS.out.n.r.frozen 4
                have r5 : wr.cell? ⟨w.heap.size, 5, none⟩ = some (.int .i64 0) := (HS.out.n.r.cell 5).trans rfl
                have fr5 : wr.frozen? ⟨w.heap.size, 5, none⟩ = false := HS.out.n.r.frozen 5
                have r6 : wr.cell? ⟨w.heap.size, 6, none⟩ = some (.int .i64 0) := (HS.out.n.r.cell 6).trans rfl
                have fr6 : wr.frozen? ⟨w.heap.size, 6, none⟩ = false := HS.out.n.r.frozen 6
                have r7 : wr.cell? ⟨w.heap.size, 7, none⟩ = some (.int .i64 0) := (HS.out.n.r.cell 7).trans rfl
                have fr7 : wr.frozen? ⟨w.heap.size, 7, none⟩ = false := HS.out.n.r.frozen 7
                have r8 : wr.cell? ⟨w.heap.size, 8, none⟩ = some (.int .i64 0) := (HS.out.n.r.cell 8).trans rfl
                have fr8 : wr.frozen? ⟨w.heap.size, 8, none⟩ = false := HS.out.n.r.frozen 8
                have r9 : wr.cell? ⟨w.heap.size, 9, none⟩ = some (.bool false) := (HS.out.n.r.cell 9).trans rfl
                have fr9 : wr.frozen? ⟨w.heap.size, 9, none⟩ = false := HS.out.n.r.frozen 9
                have r10 : wr.cell? ⟨w.heap.size, 10, none⟩ = some (.slice none 0 0) := (HS.out.n.r.cell 10).trans rfl
                have fr10 : wr.frozen? ⟨w.heap.size, 10, none⟩ = false := HS.out.n.r.frozen 10
                have r11 : wr.cell? ⟨w.heap.size, 11, none⟩ = some (.slice none 0 0) := (HS.out.n.r.cell 11).trans rfl
                have fr11 : wr.frozen? ⟨w.heap.size, 11, none⟩ = false := HS.out.n.r.frozen 11
                have r12 : wr.cell? ⟨w.heap.size, 12, none⟩ = some (.slice none 0 0) := (HS.out.n.r.cell 12).trans rfl
                have fr12 : wr.frozen? ⟨w.heap.size, 12, none⟩ = false := HS.out.n.r.frozen 12
                have K9 := keptSets wr w.heap.size 0 (TE.enc ⟨t, .slice (some ⟨G2, 0, none⟩) 2 2, .slice none 0 0, .slice pq j cq⟩)
                have HE9 := hideP (HS.out.e.kept K9 (riNe HS.out.n.r (by decide)) (rmNe HS.out.n.r (by decide)))
                have HD9 := hideP (HS.out.n.d.own (r := some w.heap.size) (grown_setCells (TE.enc ⟨t, .slice (some ⟨G2, 0, none⟩) 2 2, .slice none 0 0, .slice pq j cq⟩) 0 (World.grownBy.refl wr _)) hW (fun k e => by cases e; exact Nat.le_refl _))
                clear K9 HS
                go_wp2
                refine bodyPost_ret (v := .agg #[.int .i64 t.gen, .int .i64 t.kind, .int .i64 t.box, .int .i64 t.res, .int .i64 t.til, .int .i64 t.pages, .int .i64 t.wait, .int .i64 t.got, .int .i64 t.ran, .bool t.mark, .slice (some ⟨G2, 0, none⟩) 2 2, .slice none 0 0, .slice pq j cq]) (by simp [results, Try.results65, go_sem, r0, r1, r2, r3, r4, r5, r6, r7, r8, r9, r10, r11, r12]) rfl ⟨t, .slice (some ⟨G2, 0, none⟩) 2 2, .slice none 0 0, .slice pq j cq, rfl, ?_, ?_⟩
                · exact HE9.out
                · exact HD9.out

          by_cases k4 : K = 4
          · have dk2 : (K == 2) = false := by simp [k2]
            have dk3 : (K == 3) = false := by simp [k3]
            have dk4 : (K == 4) = true := by simp [k4]
            clear k2 k3 k4 hK1
            go_wp2_with fail
            clear c1
            refine (de_pick [0, 0, 7, 34] 4 rfl (by decide) (by decide) (HS.out.below (below_a1 _ _)).n.d.1 (lit_cells _ [0, 0, 7, 34] 3) (by have := HS.out.n.d.2.size; omega)).mono ?_
            rintro e wa ⟨x6, hx6, rfl, hd⟩
            have HS := hideP ((HS.out.below (below_a1 _ _)).drew hd)
            have HW6 : Hid (I64 x6) := hideP (by simp at hx6; unfold I64; omega)
            have a6 : wa.cell? ⟨O, 6, none⟩ = some (.int .i64 t.wait) := (HS.out.o.cell 6).trans rfl
            have fa6 : wa.frozen? ⟨O, 6, none⟩ = false := HS.out.o.frozen 6
            have HS1 := hideP (HS.out.field (j := 6) (u := .int .i64 x6) (x' := ⟨{ t with wait := x6 }, .slice (some ⟨G2, 0, none⟩) 2 2, .slice none 0 0, .slice none 0 0⟩) rfl ⟨HS.out.e.l, HS.out.e.d, HS.out.e.q, ⟨HS.out.e.s.l, HS.out.e.s.d, HS.out.e.s.q, HW6.out, HS.out.e.s.k⟩⟩)
            clear hx6 hd HS
            go_upto_region 26 with fail
            obtain ⟨wb, hwb⟩ : ∃ z, z = wa.setCell ⟨O, 6, none⟩ (.int .i64 x6) := ⟨_, rfl⟩
            rw [← hwb] at HS1 ⊢
            clear hwb a6 fa6
            go_wp2_with fail
            refine (de_below 9 (by omega) (by omega) HS1.out.n.d.1).mono ?_
            rintro e wc ⟨x7, rfl, x70, x71, hd⟩
            have HS2 := hideP (HS1.out.drew hd)
            have a7 : wc.cell? ⟨O, 7, none⟩ = some (.int .i64 t.got) := (HS2.out.o.cell 7).trans rfl
            have fa7 : wc.frozen? ⟨O, 7, none⟩ = false := HS2.out.o.frozen 7
            have HS3 := hideP (HS2.out.field (j := 7) (u := .int .i64 (x7 - 1)) (x' := ⟨{ t with wait := x6, got := x7 - 1 }, .slice (some ⟨G2, 0, none⟩) 2 2, .slice none 0 0, .slice none 0 0⟩) rfl ⟨HS2.out.e.l, HS2.out.e.d, HS2.out.e.q, ⟨HS2.out.e.s.l, HS2.out.e.s.d, HS2.out.e.s.q, HS2.out.e.s.w, HS2.out.e.s.k⟩⟩)
            clear hd HS1 HS2
            go_upto_region 27 with fail
            obtain ⟨wd, hwd⟩ : ∃ z, z = wc.setCell ⟨O, 7, none⟩ (.int .i64 (x7 - 1)) := ⟨_, rfl⟩
            rw [← hwd] at HS3 ⊢
            clear hwd a7 fa7
            go_wp2_with fail
            refine (de_below 5 (by omega) (by omega) HS3.out.n.d.1).mono ?_
            rintro e we ⟨x8, rfl, x80, x81, hd⟩
            have HS4 := hideP (HS3.out.drew hd)
            have a8 : we.cell? ⟨O, 8, none⟩ = some (.int .i64 t.ran) := (HS4.out.o.cell 8).trans rfl
            have fa8 : we.frozen? ⟨O, 8, none⟩ = false := HS4.out.o.frozen 8
            have HS5 := hideP (HS4.out.field (j := 8) (u := .int .i64 x8) (x' := ⟨{ t with wait := x6, got := x7 - 1, ran := x8 }, .slice (some ⟨G2, 0, none⟩) 2 2, .slice none 0 0, .slice none 0 0⟩) rfl ⟨HS4.out.e.l, HS4.out.e.d, HS4.out.e.q, ⟨HS4.out.e.s.l, HS4.out.e.s.d, HS4.out.e.s.q, HS4.out.e.s.w, HS4.out.e.s.k⟩⟩)
            clear hd HS3 HS4
            go_upto_region 28 with fail
            obtain ⟨wf, hwf⟩ : ∃ z, z = we.setCell ⟨O, 8, none⟩ (.int .i64 x8) := ⟨_, rfl⟩
            rw [← hwf] at HS5 ⊢
            obtain ⟨t5, ht5⟩ : ∃ z : Thing, z = { t with wait := x6, got := x7 - 1, ran := x8 } := ⟨_, rfl⟩
            rw [← ht5] at HS5
            clear hwf a8 fa8 ht5 HP HK
            have b0 : wf.cell? ⟨O, 0, none⟩ = some (.int .i64 t5.gen) := (HS5.out.o.cell 0).trans rfl
            have b1 : wf.cell? ⟨O, 1, none⟩ = some (.int .i64 t5.kind) := (HS5.out.o.cell 1).trans rfl
            have b2 : wf.cell? ⟨O, 2, none⟩ = some (.int .i64 t5.box) := (HS5.out.o.cell 2).trans rfl
            have b3 : wf.cell? ⟨O, 3, none⟩ = some (.int .i64 t5.res) := (HS5.out.o.cell 3).trans rfl
            have b4 : wf.cell? ⟨O, 4, none⟩ = some (.int .i64 t5.til) := (HS5.out.o.cell 4).trans rfl
            have b5 : wf.cell? ⟨O, 5, none⟩ = some (.int .i64 t5.pages) := (HS5.out.o.cell 5).trans rfl
            have b6 : wf.cell? ⟨O, 6, none⟩ = some (.int .i64 t5.wait) := (HS5.out.o.cell 6).trans rfl
            have b7 : wf.cell? ⟨O, 7, none⟩ = some (.int .i64 t5.got) := (HS5.out.o.cell 7).trans rfl
            have b8 : wf.cell? ⟨O, 8, none⟩ = some (.int .i64 t5.ran) := (HS5.out.o.cell 8).trans rfl
            have b9 : wf.cell? ⟨O, 9, none⟩ = some (.bool t5.mark) := (HS5.out.o.cell 9).trans rfl
            have b10 : wf.cell? ⟨O, 10, none⟩ = some (.slice (some ⟨G2, 0, none⟩) 2 2) := (HS5.out.o.cell 10).trans rfl
            have b11 : wf.cell? ⟨O, 11, none⟩ = some (.slice none 0 0) := (HS5.out.o.cell 11).trans rfl
            have b12 : wf.cell? ⟨O, 12, none⟩ = some (.slice none 0 0) := (HS5.out.o.cell 12).trans rfl
            have r0 : wf.cell? ⟨w.heap.size, 0, none⟩ = some (.int .i64 0) := (HS5.out.n.r.cell 0).trans rfl
            have fr0 : wf.frozen? ⟨w.heap.size, 0, none⟩ = false := HS5.out.n.r.frozen 0
            have r1 : wf.cell? ⟨w.heap.size, 1, none⟩ = some (.int .i64 0) := (HS5.out.n.r.cell 1).trans rfl
            have fr1 : wf.frozen? ⟨w.heap.size, 1, none⟩ = false := HS5.out.n.r.frozen 1
            have r2 : wf.cell? ⟨w.heap.size, 2, none⟩ = some (.int .i64 0) := (HS5.out.n.r.cell 2).trans rfl
            have fr2 : wf.frozen? ⟨w.heap.size, 2, none⟩ = false := HS5.out.n.r.frozen 2
            have r3 : wf.cell? ⟨w.heap.size, 3, none⟩ = some (.int .i64 0) := (HS5.out.n.r.cell 3).trans rfl
            have fr3 : wf.frozen? ⟨w.heap.size, 3, none⟩ = false := HS5.out.n.r.frozen 3
            have r4 : wf.cell? ⟨w.heap.size, 4, none⟩ = some (.int .i64 0) := (HS5.out.n.r.cell 4).trans rfl
            have fr4 : wf.frozen? ⟨w.heap.size, 4, none⟩ = false := HS5.out.n.r.frozen 4
            have r5 : wf.cell? ⟨w.heap.size, 5, none⟩ = some (.int .i64 0) := (HS5.out.n.r.cell 5).trans rfl
            have fr5 : wf.frozen? ⟨w.heap.size, 5, none⟩ = false := HS5.out.n.r.frozen 5
            have r6 : wf.cell? ⟨w.heap.size, 6, none⟩ = some (.int .i64 0) := (HS5.out.n.r.cell 6).trans rfl
            have fr6 : wf.frozen? ⟨w.heap.size, 6, none⟩ = false := HS5.out.n.r.frozen 6
            have r7 : wf.cell? ⟨w.heap.size, 7, none⟩ = some (.int .i64 0) := (HS5.out.n.r.cell 7).trans rfl
            have fr7 : wf.frozen? ⟨w.heap.size, 7, none⟩ = false := HS5.out.n.r.frozen 7
            have r8 : wf.cell? ⟨w.heap.size, 8, none⟩ = some (.int .i64 0) := (HS5.out.n.r.cell 8).trans rfl
            have fr8 : wf.frozen? ⟨w.heap.size, 8, none⟩ = false := HS5.out.n.r.frozen 8
            have r9 : wf.cell? ⟨w.heap.size, 9, none⟩ = some (.bool false) := (HS5.out.n.r.cell 9).trans rfl
            have fr9 : wf.frozen? ⟨w.heap.size, 9, none⟩ = false := HS5.out.n.r.frozen 9
            have r10 : wf.cell? ⟨w.heap.size, 10, none⟩ = some (.slice none 0 0) := (HS5.out.n.r.cell 10).trans rfl
            have fr10 : wf.frozen? ⟨w.heap.size, 10, none⟩ = false := HS5.out.n.r.frozen 10
            have r11 : wf.cell? ⟨w.heap.size, 11, none⟩ = some (.slice none 0 0) := (HS5.out.n.r.cell 11).trans rfl
            have fr11 : wf.frozen? ⟨w.heap.size, 11, none⟩ = false := HS5.out.n.r.frozen 11
            have r12 : wf.cell? ⟨w.heap.size, 12, none⟩ = some (.slice none 0 0) := (HS5.out.n.r.cell 12).trans rfl
            have fr12 : wf.frozen? ⟨w.heap.size, 12, none⟩ = false := HS5.out.n.r.frozen 12
            have K9 := keptSets wf w.heap.size 0 (TE.enc ⟨t5, .slice (some ⟨G2, 0, none⟩) 2 2, .slice none 0 0, .slice none 0 0⟩)
            have HE9 := hideP (HS5.out.e.kept K9 (riNe HS5.out.n.r (by decide)) (rmNe HS5.out.n.r (by decide)))
            have HD9 := hideP (HS5.out.n.d.own (r := some w.heap.size) (grown_setCells (TE.enc ⟨t5, .slice (some ⟨G2, 0, none⟩) 2 2, .slice none 0 0, .slice none 0 0⟩) 0 (World.grownBy.refl wf _)) hW (fun k e => by cases e; exact Nat.le_refl _))
            clear K9 HS5
            go_wp2
            refine bodyPost_ret (v := .agg #[.int .i64 t5.gen, .int .i64 t5.kind, .int .i64 t5.box, .int .i64 t5.res, .int .i64 t5.til, .int .i64 t5.pages, .int .i64 t5.wait, .int .i64 t5.got, .int .i64 t5.ran, .bool t5.mark, .slice (some ⟨G2, 0, none⟩) 2 2, .slice none 0 0, .slice none 0 0]) (by simp [results, Try.results65, go_sem, r0, r1, r2, r3, r4, r5, r6, r7, r8, r9, r10, r11, r12]) rfl ⟨t5, .slice (some ⟨G2, 0, none⟩) 2 2, .slice none 0 0, .slice none 0 0, rfl, ?_, ?_⟩
            · exact HE9.out
            · exact HD9.out

          · have dk2 : (K == 2) = false := by simp [k2]
            have dk3 : (K == 3) = false := by simp [k3]
            have dk4 : (K == 4) = false := by simp [k4]
            clear k2 k3 k4 hK1
            go_upto_region 28 with fail
            clear c1
            have b0 : wr.cell? ⟨O, 0, none⟩ = some (.int .i64 t.gen) := (HS.out.o.cell 0).trans rfl
            have b1 : wr.cell? ⟨O, 1, none⟩ = some (.int .i64 t.kind) := (HS.out.o.cell 1).trans rfl
            have b2 : wr.cell? ⟨O, 2, none⟩ = some (.int .i64 t.box) := (HS.out.o.cell 2).trans rfl
            have b3 : wr.cell? ⟨O, 3, none⟩ = some (.int .i64 t.res) := (HS.out.o.cell 3).trans rfl
            have b4 : wr.cell? ⟨O, 4, none⟩ = some (.int .i64 t.til) := (HS.out.o.cell 4).trans rfl
            have b5 : wr.cell? ⟨O, 5, none⟩ = some (.int .i64 t.pages) := (HS.out.o.cell 5).trans rfl
            have b6 : wr.cell? ⟨O, 6, none⟩ = some (.int .i64 t.wait) := (HS.out.o.cell 6).trans rfl
            have b7 : wr.cell? ⟨O, 7, none⟩ = some (.int .i64 t.got) := (HS.out.o.cell 7).trans rfl
            have b8 : wr.cell? ⟨O, 8, none⟩ = some (.int .i64 t.ran) := (HS.out.o.cell 8).trans rfl
            have b9 : wr.cell? ⟨O, 9, none⟩ = some (.bool t.mark) := (HS.out.o.cell 9).trans rfl
            have b10 : wr.cell? ⟨O, 10, none⟩ = some (.slice (some ⟨G2, 0, none⟩) 2 2) := (HS.out.o.cell 10).trans rfl
            have b11 : wr.cell? ⟨O, 11, none⟩ = some (.slice none 0 0) := (HS.out.o.cell 11).trans rfl
            have b12 : wr.cell? ⟨O, 12, none⟩ = some (.slice none 0 0) := (HS.out.o.cell 12).trans rfl
            have r0 : wr.cell? ⟨w.heap.size, 0, none⟩ = some (.int .i64 0) := (HS.out.n.r.cell 0).trans rfl
            have fr0 : wr.frozen? ⟨w.heap.size, 0, none⟩ = false := HS.out.n.r.frozen 0
            have r1 : wr.cell? ⟨w.heap.size, 1, none⟩ = some (.int .i64 0) := (HS.out.n.r.cell 1).trans rfl
            have fr1 : wr.frozen? ⟨w.heap.size, 1, none⟩ = false := HS.out.n.r.frozen 1
            have r2 : wr.cell? ⟨w.heap.size, 2, none⟩ = some (.int .i64 0) := (HS.out.n.r.cell 2).trans rfl
            have fr2 : wr.frozen? ⟨w.heap.size, 2, none⟩ = false := HS.out.n.r.frozen 2
            have r3 : wr.cell? ⟨w.heap.size, 3, none⟩ = some (.int .i64 0) := (HS.out.n.r.cell 3).trans rfl
            have fr3 : wr.frozen? ⟨w.heap.size, 3, none⟩ = false := HS.out.n.r.frozen 3
            have r4 : wr.cell? ⟨w.heap.size, 4, none⟩ = some (.int .i64 0) := (HS.out.n.r.cell 4).trans rfl
            have fr4 : wr.frozen? ⟨w.heap.size, 4, none⟩ = false := HS.out.n.r.frozen 4
            have r5 : wr.cell? ⟨w.heap.size, 5, none⟩ = some (.int .i64 0) := (HS.out.n.r.cell 5).trans rfl
            have fr5 : wr.frozen? ⟨w.heap.size, 5, none⟩ = false := HS.out.n.r.frozen 5
            have r6 : wr.cell? ⟨w.heap.size, 6, none⟩ = some (.int .i64 0) := (HS.out.n.r.cell 6).trans rfl
            have fr6 : wr.frozen? ⟨w.heap.size, 6, none⟩ = false := HS.out.n.r.frozen 6
            have r7 : wr.cell? ⟨w.heap.size, 7, none⟩ = some (.int .i64 0) := (HS.out.n.r.cell 7).trans rfl
            have fr7 : wr.frozen? ⟨w.heap.size, 7, none⟩ = false := HS.out.n.r.frozen 7
            have r8 : wr.cell? ⟨w.heap.size, 8, none⟩ = some (.int .i64 0) := (HS.out.n.r.cell 8).trans rfl
            have fr8 : wr.frozen? ⟨w.heap.size, 8, none⟩ = false := HS.out.n.r.frozen 8
            have r9 : wr.cell? ⟨w.heap.size, 9, none⟩ = some (.bool false) := (HS.out.n.r.cell 9).trans rfl
            have fr9 : wr.frozen? ⟨w.heap.size, 9, none⟩ = false := HS.out.n.r.frozen 9
            have r10 : wr.cell? ⟨w.heap.size, 10, none⟩ = some (.slice none 0 0) := (HS.out.n.r.cell 10).trans rfl
            have fr10 : wr.frozen? ⟨w.heap.size, 10, none⟩ = false := HS.out.n.r.frozen 10
            have r11 : wr.cell? ⟨w.heap.size, 11, none⟩ = some (.slice none 0 0) := (HS.out.n.r.cell 11).trans rfl
            have fr11 : wr.frozen? ⟨w.heap.size, 11, none⟩ = false := HS.out.n.r.frozen 11
            have r12 : wr.cell? ⟨w.heap.size, 12, none⟩ = some (.slice none 0 0) := (HS.out.n.r.cell 12).trans rfl
            have fr12 : wr.frozen? ⟨w.heap.size, 12, none⟩ = false := HS.out.n.r.frozen 12
            have K9 := keptSets wr w.heap.size 0 (TE.enc ⟨t, .slice (some ⟨G2, 0, none⟩) 2 2, .slice none 0 0, .slice none 0 0⟩)
            have HE9 := hideP (HS.out.e.kept K9 (riNe HS.out.n.r (by decide)) (rmNe HS.out.n.r (by decide)))
            have HD9 := hideP (HS.out.n.d.own (r := some w.heap.size) (grown_setCells (TE.enc ⟨t, .slice (some ⟨G2, 0, none⟩) 2 2, .slice none 0 0, .slice none 0 0⟩) 0 (World.grownBy.refl wr _)) hW (fun k e => by cases e; exact Nat.le_refl _))
            clear K9 HS
            go_wp2
            refine bodyPost_ret (v := .agg #[.int .i64 t.gen, .int .i64 t.kind, .int .i64 t.box, .int .i64 t.res, .int .i64 t.til, .int .i64 t.pages, .int .i64 t.wait, .int .i64 t.got, .int .i64 t.ran, .bool t.mark, .slice (some ⟨G2, 0, none⟩) 2 2, .slice none 0 0, .slice none 0 0]) (by simp [results, Try.results65, go_sem, r0, r1, r2, r3, r4, r5, r6, r7, r8, r9, r10, r11, r12]) rfl ⟨t, .slice (some ⟨G2, 0, none⟩) 2 2, .slice none 0 0, .slice none 0 0, rfl, ?_, ?_⟩
            · exact HE9.out
            · exact HD9.out

end Go.Proofs.Ytabbncoihmhocaa
