/- Boots drawn: l15Boot. -/
import Derived.Test.YtnchmenpgmlpdaaBootDraw3
import Derived.Test.YtnchmenpgmlpdaaBootTo
import Derived.Test.YtnchmenpgmlpdaaKeep
import Derived.Test.YtnchmenpgmlpdaaApp
import Derived.Deep.DeepCutAuto
import Derived.Deep.LoopGhost
import Derived.StillTailTactics
namespace Go.Proofs.Ytnchmenpgmlpdaa
open Go.RowKit

/-- A row of ints of the drawer's own. -/
def RowI (w : World) (B : Nat) (v : Value) (ls : List Int) : Prop := w.ownsRow B 3 1 v ls.length (icell ls)
def bxs (bs : List (Boot × Value × Value)) : List Value := (bs.map fun x => x.1.cells x.2.1 x.2.2).flatten
/-- Boots drawn: their lists may be shared. -/
structure BS (w : World) (B : Nat) (v : Value) (bs : List (Boot × Value × Value)) : Prop where
  row : w.ownsRow B 45 5 v bs.length (bxs bs)
  el : ∀ x ∈ bs, RowI w B x.2.1 x.1.lv ∧ RowI w B x.2.2 x.1.own ∧ x.1.lv.length ≤ 5 ∧ x.1.own.length ≤ 5
structure Lab (w : World) (B X : Nat) (p : Option Addr) (c : Nat) : Prop where
  a : Blk w X 41 [.slice p 4 c]
  o : ∃ ls, ls.length = 4 ∧ RowI w B (.slice p 4 c) ls
structure Bt (w : World) (B X : Nat) (p : Option Addr) (c : Nat) (po : Option Addr) (no co : Nat) (a : Amt) : Prop where
  b : Blk w X 45 [.slice p 4 c, .slice po no co, .int .i64 a.p, .int .i64 a.r, .int .i64 a.c]
  l : ∃ ls, ls.length = 4 ∧ RowI w B (.slice p 4 c) ls
  o : ∃ ls, ls.length = no ∧ no ≤ 1 ∧ RowI w B (.slice po no co) ls
theorem row_ne {w : World} {base s n X : Nat} {e T : TypeId} {v : Value} {xs cs : List Value} (ho : w.ownsRow base e s v n xs) (hB : Blk w X T cs) (hT : T ≠ e) : ∀ q, v.ownBlock = some q → q ≠ X := by
  intro q hq e2
  subst e2
  obtain ⟨_, h2⟩ := ho
  rcases h2 with ⟨rfl, _⟩ | ⟨b, cap, cur, rfl, _, hg, _⟩
  · cases hq
  · obtain rfl : b = q := by simpa [Value.ownBlock] using hq
    unfold Blk at hB
    have h9 := Option.some.inj (hB.symm.trans hg)
    injection h9 with _ h10 _
    exact hT h10
theorem row_ne2 {w : World} {base base' s s' n n' : Nat} {e e' : TypeId} {v v' : Value} {xs xs' : List Value} (ho : w.ownsRow base e s v n xs) (ho' : w.ownsRow base' e' s' v' n' xs') (hT : e' ≠ e) : ∀ q, v.ownBlock = some q → v'.ownBlock = some q → False := by
  intro q hq hq'
  obtain ⟨_, h2⟩ := ho'
  rcases h2 with ⟨rfl, _⟩ | ⟨b, cap, cur, rfl, _, hg, _⟩
  · cases hq'
  · obtain rfl : b = q := by simpa [Value.ownBlock] using hq'
    exact row_ne ho (show Blk w b e' cur.toList by unfold Blk; rw [hg]) hT _ hq rfl
section
variable {w w' W : World} {B X cb : Nat} {v : Value} {bs : List (Boot × Value × Value)} {p po : Option Addr} {c no co : Nat} {a : Amt} {P : Nat → Prop}
theorem RowI.kept {ls : List Int} (h : RowI w B v ls) (k : KeptP P w w') (hv : ∀ q, v.ownBlock = some q → ¬ P q) : RowI w' B v ls := k.owns h hv
theorem BS.kept (h : BS w B v bs) (k : KeptP P w w') (hv : ∀ q, v.ownBlock = some q → ¬ P q) (hi : ∀ u ls, RowI w B u ls → ∀ q, u.ownBlock = some q → ¬ P q) : BS w' B v bs :=
  ⟨k.owns h.row hv, fun x hx => by obtain ⟨h1, h2, h3⟩ := h.el x hx; exact ⟨h1.kept k (hi _ _ h1), h2.kept k (hi _ _ h2), h3⟩⟩
theorem Lab.kept (h : Lab w B X p c) (k : KeptP P w w') (hX : ¬ P X) (hi : ∀ u ls, RowI w B u ls → ∀ q, u.ownBlock = some q → ¬ P q) : Lab w' B X p c :=
  ⟨k.blk h.a hX, by obtain ⟨ls, hl, h1⟩ := h.o; exact ⟨ls, hl, h1.kept k (hi _ _ h1)⟩⟩
theorem Bt.kept (h : Bt w B X p c po no co a) (k : KeptP P w w') (hX : ¬ P X) (hi : ∀ u ls, RowI w B u ls → ∀ q, u.ownBlock = some q → ¬ P q) : Bt w' B X p c po no co a :=
  ⟨k.blk h.b hX, by obtain ⟨ls, hl, h1⟩ := h.l; exact ⟨ls, hl, h1.kept k (hi _ _ h1)⟩, by obtain ⟨ls, hl, hn, h1⟩ := h.o; exact ⟨ls, hl, hn, h1.kept k (hi _ _ h1)⟩⟩
theorem BS.drew (h : BS w B v bs) (d : Drew W cb w w') (hB : W.heap.size ≤ B) : BS w' B v bs :=
  ⟨d.owns h.row hB, fun x hx => by obtain ⟨h1, h2, h3⟩ := h.el x hx; exact ⟨d.owns h1 hB, d.owns h2 hB, h3⟩⟩
theorem Lab.drew (h : Lab w B X p c) (d : Drew W cb w w') (hB : W.heap.size ≤ B) (hX : W.heap.size ≤ X) : Lab w' B X p c :=
  ⟨d.blk h.a hX, by obtain ⟨ls, hl, h1⟩ := h.o; exact ⟨ls, hl, d.owns h1 hB⟩⟩
theorem Bt.drew (h : Bt w B X p c po no co a) (d : Drew W cb w w') (hB : W.heap.size ≤ B) (hX : W.heap.size ≤ X) : Bt w' B X p c po no co a :=
  ⟨d.blk h.b hX, by obtain ⟨ls, hl, h1⟩ := h.l; exact ⟨ls, hl, d.owns h1 hB⟩, by obtain ⟨ls, hl, hn, h1⟩ := h.o; exact ⟨ls, hl, hn, d.owns h1 hB⟩⟩
theorem BS.below (h : BS w B v bs) (b : Below w.heap.size w w') : BS w' B v bs := h.kept (P := fun _ => False) (KeptP.of_below b) (fun _ _ e => e) (fun _ _ _ _ _ e => e)
theorem Lab.below (h : Lab w B X p c) (b : Below w.heap.size w w') : Lab w' B X p c := h.kept (P := fun _ => False) (KeptP.of_below b) (fun e => e) (fun _ _ _ _ _ e => e)
theorem Bt.below (h : Bt w B X p c po no co a) (b : Below w.heap.size w w') : Bt w' B X p c po no co a := h.kept (P := fun _ => False) (KeptP.of_below b) (fun e => e) (fun _ _ _ _ _ e => e)
theorem kept_set (w : World) (X i : Nat) (u : Value) : KeptP (fun q => q = X) w (w.setCell ⟨X, i, none⟩ u) := (KeptP.refl (fun q => q = X) w).setCell (p := ⟨X, i, none⟩) rfl u
theorem rowI_ne {T : TypeId} {cs : List Value} (hB : Blk w X T cs) (hT : T ≠ 3) : ∀ u ls, RowI w B u ls → ∀ q, u.ownBlock = some q → ¬ (q = X) := fun _ _ h q hq => row_ne h hB hT q hq
/-- A store into the label's cell. -/
theorem BS.setL {i : Nat} {u : Value} {p' : Option Addr} {c' : Nat} (h : BS w B v bs) (hL : Lab w B X p' c') : BS (w.setCell ⟨X, i, none⟩ u) B v bs := h.kept (kept_set w X i u) (row_ne h.row hL.a (by decide)) (rowI_ne hL.a (by decide))
theorem Bt.setL {Y i : Nat} {u : Value} {p' : Option Addr} {c' : Nat} (h : Bt w B Y p c po no co a) (hL : Lab w B X p' c') (hne : Y ≠ X) : Bt (w.setCell ⟨X, i, none⟩ u) B Y p c po no co a := h.kept (kept_set w X i u) hne (rowI_ne hL.a (by decide))
theorem Lab.setL {p' : Option Addr} {c' : Nat} {ls : List Int} (h : Lab w B X p c) (hl : ls.length = 4) (ho : RowI w B (.slice p' 4 c') ls) : Lab (w.setCell ⟨X, 0, none⟩ (.slice p' 4 c')) B X p' c' :=
  ⟨h.a.set 0 _, ls, hl, ho.kept (kept_set w X 0 _) (rowI_ne h.a (by decide) _ _ ho)⟩
/-- A store into the boot's variable. -/
theorem BS.setB {i : Nat} {u : Value} (h : BS w B v bs) (hb : Bt w B X p c po no co a) (hv : ∀ q, v.ownBlock = some q → q ≠ X) : BS (w.setCell ⟨X, i, none⟩ u) B v bs := h.kept (kept_set w X i u) hv (rowI_ne hb.b (by decide))
theorem Lab.setB {Y i : Nat} {u : Value} {p' : Option Addr} {c' : Nat} (h : Lab w B Y p' c') (hb : Bt w B X p c po no co a) (hne : Y ≠ X) : Lab (w.setCell ⟨X, i, none⟩ u) B Y p' c' := h.kept (kept_set w X i u) hne (rowI_ne hb.b (by decide))
theorem Bt.setB {p' : Option Addr} {c' : Nat} {ls : List Int} (h : Bt w B X p c po no co a) (hl : ls.length = 4) (ho : RowI w B (.slice p' 4 c') ls) : Bt (w.setCell ⟨X, 0, none⟩ (.slice p' 4 c')) B X p' c' po no co a :=
  ⟨h.b.set 0 _, ⟨ls, hl, ho.kept (kept_set w X 0 _) (rowI_ne h.b (by decide) _ _ ho)⟩, by obtain ⟨l2, h2, hn, h1⟩ := h.o; exact ⟨l2, h2, hn, h1.kept (kept_set w X 0 _) (rowI_ne h.b (by decide) _ _ h1)⟩⟩
theorem Bt.setO {p' : Option Addr} {n' c' : Nat} {ls : List Int} (h : Bt w B X p c po no co a) (hl : ls.length = n') (hn' : n' ≤ 1) (ho : RowI w B (.slice p' n' c') ls) : Bt (w.setCell ⟨X, 1, none⟩ (.slice p' n' c')) B X p c p' n' c' a :=
  ⟨h.b.set 1 _, by obtain ⟨l2, h2, h1⟩ := h.l; exact ⟨l2, h2, h1.kept (kept_set w X 1 _) (rowI_ne h.b (by decide) _ _ h1)⟩, ⟨ls, hl, hn', ho.kept (kept_set w X 1 _) (rowI_ne h.b (by decide) _ _ ho)⟩⟩
/-- A boot is appended. -/
theorem BS.snoc {v9 : Value} {w9 : World} {x : Boot} {vl vo : Value} {n : Nat} (h : BS w B v bs) (hl : RowI w B vl x.lv) (ho : RowI w B vo x.own) (h5 : x.lv.length ≤ 5 ∧ x.own.length ≤ 5) (ho9 : w9.ownsRow B 45 5 v9 n (bxs bs ++ x.cells vl vo)) (hn : n = bs.length + 1) (hg : w.grownBy w9 v.ownBlock) : BS w9 B v9 (bs ++ [(x, vl, vo)]) := by
  subst hn
  have k := KeptP.of_grown hg
  have hi : ∀ u ls, RowI w B u ls → ∀ q, u.ownBlock = some q → ¬ (v.ownBlock = some q) := fun u ls hr q hq hq' => row_ne2 hr h.row (by decide) q hq hq'
  refine ⟨?_, ?_⟩
  · rw [List.length_append, show bxs (bs ++ [(x, vl, vo)]) = bxs bs ++ x.cells vl vo by simp [bxs]]
    exact ho9
  · intro y hy
    rcases List.mem_append.1 hy with hy | hy
    · obtain ⟨h1, h2, h3⟩ := h.el y hy
      exact ⟨h1.kept k (hi _ _ h1), h2.kept k (hi _ _ h2), h3⟩
    · obtain rfl := List.mem_singleton.1 hy
      exact ⟨hl.kept k (hi _ _ hl), ho.kept k (hi _ _ ho), h5⟩
theorem BS.nil (w : World) (B : Nat) : BS w B (.slice none 0 0) [] := ⟨owns_nilB _ _ _ _, by simp⟩
end
theorem blk_new_at {w : World} {g : Nat} (cs : Array Value) (T : TypeId) (h : g = w.heap.size) : Blk (w.alloc (.cells cs T)) g T cs.toList := by
  subst h
  exact Blk.new w cs T
/-- What l15Boot hands back. -/
def BootsRet (W : World) (cb : Nat) (w : World) (m : Nat) (e : Ending) (w' : World) : Prop :=
  ∃ v bs, e = .returned v ∧ BS w' w.heap.size v bs ∧ 1 ≤ bs.length ∧ bs.length ≤ m ∧ Drew W cb w w'
set_option maxRecDepth 100000 in
set_option maxHeartbeats 8000000 in
theorem l15Boot_any {W w : World} {cb : Nat} (h : DE W cb w) : Calls Try.prog 136 #[.pointer (some ⟨cb, 0, none⟩)] w (BootsRet W cb w 3) := by
  obtain ⟨i0, hi, hz0, hz1, hz2⟩ := info_parts Try.infoIntB
  obtain ⟨j0, hj, hy0, hy1, hy2⟩ := info_parts Try.infoBoot
  have hW := h.lt.2
  have H0 := hideP h
  clear h
  go_enter Try.func136, Try.ntmps136
  go_upto_region 3 with fail
  obtain ⟨w0, hw0⟩ : ∃ w0, w0 = ((w.alloc (.cells #[] 45)).alloc (.cells #[.int .i64 0, .int .i64 0, .int .i64 0, .int .i64 0] 3)).alloc (.cells #[.slice (some ⟨w.heap.size + 1, 0, none⟩) 4 4] 41) := ⟨_, rfl⟩
  have HBS : Hid (BS w0 w.heap.size (.slice (some ⟨w.heap.size, 0, none⟩) 0 0) []) := hideP (by
    rw [hw0]
    exact ⟨World.ownsRow.alloc (World.ownsRow.alloc (owns_lit (Nat.le_refl _) rfl (by decide) rfl rfl) _) _, by simp⟩)
  have HLab : Hid (Lab w0 w.heap.size (w.heap.size + 1 + 1) (some ⟨w.heap.size + 1, 0, none⟩) 4) := hideP (by
    rw [hw0]
    exact ⟨blk_new_at _ _ (by simp), [0, 0, 0, 0], rfl, World.ownsRow.alloc (owns_lit (by simp) (by simp) (by decide) rfl rfl) _⟩)
  have HD : Hid (Drew W cb w w0) := hideP (by
    rw [hw0]
    exact (((Drew.refl H0.out).alloc _).alloc _).alloc _)
  rw [← hw0]
  clear hw0 H0
  go_wp2_with fail
  refine (de_below 3 (by omega) (by omega) HD.out.1).mono ?_
  rintro e w1 ⟨y, rfl, y0, y1, hd⟩
  obtain ⟨y, rfl⟩ := Int.eq_ofNat_of_zero_le y0
  have HBS := hideP (HBS.out.drew hd hW)
  have HLab := hideP (HLab.out.drew hd hW (by omega))
  have HD := hideP (HD.out.trans hd)
  have hy2' : y ≤ 2 := by omega
  clear hd y0 y1
  go_wp2
  go_loopg [3, 5] 4 (fun gk sv iv wr => ∃ (v : Value) (m : Nat) (bs : List (Boot × Value × Value)) (p : Option Addr) (c : Nat), m < gk ∧ m + bs.length ≤ 3 ∧ 1 ≤ m + bs.length ∧ v = sv ∧ iv = .int .i64 (m : Int) ∧ Hid (BS wr w.heap.size v bs) ∧ Hid (Lab wr w.heap.size (w.heap.size + 1 + 1) p c) ∧ Hid (Drew W cb w wr))
  case atStart => exact ⟨_, y + 1, [], _, _, by omega, by simp; omega, by simp, rfl, by go_num, HBS, HLab, HD⟩
  case round =>
    clear HBS HLab HD
    obtain ⟨v, m, bs, p, c, hgk, hm3, hm1, rfl, rfl, HBS, HLab, HD⟩ := hrel
    by_cases h0 : 0 < m
    · have d0 : (m : Int) > 0 := by omega
      go_wp2_with fail
      refine (l13Boot_any HD.out.1).mono ?_
      rintro e w1 ⟨p1, c1, ls1, a1, rfl, hl1, ho1, hd⟩
      have hBw : wr.heap.size ≤ w1.heap.size := hd.2.size
      have hGw : w.heap.size ≤ wr.heap.size := HD.out.2.size
      have HBS := hideP (HBS.out.drew hd hW)
      have HLab := hideP (HLab.out.drew hd hW (by omega))
      have HD := hideP (HD.out.trans hd)
      have HO1 : Hid (RowI w1 w.heap.size (.slice p1 4 c1) ls1) := hideP (by unfold RowI; rw [hl1]; exact owns_mono ho1 hGw)
      have HVB : Hid (∀ q, v.ownBlock = some q → q ≠ w1.heap.size) := hideP (fun q e => by have := (HBS.out.row.lt q e).2; omega)
      have HPA : (w.heap.size + 1 + 1) ≠ w1.heap.size := by have := HLab.out.a.lt; omega
      have hba := below_a1 w1 (.cells #[.slice p1 4 c1, .slice none 0 0, .int .i64 a1.p, .int .i64 a1.r, .int .i64 a1.c] 45)
      have HBS := hideP (HBS.out.below hba)
      have HLab := hideP (HLab.out.below hba)
      have HD := hideP (HD.out.below hba)
      have HBt : Hid (Bt (w1.alloc (.cells #[.slice p1 4 c1, .slice none 0 0, .int .i64 a1.p, .int .i64 a1.r, .int .i64 a1.c] 45)) w.heap.size w1.heap.size p1 c1 none 0 0 a1) := hideP ⟨Blk.new _ _ _, ⟨ls1, hl1, World.ownsRow.alloc HO1.out _⟩, ⟨[], rfl, by omega, owns_nilB _ _ _ _⟩⟩
      have hPW : W.heap.size ≤ w1.heap.size := by omega
      clear hd ho1 hl1 HO1 hba
      go_wp2_with fail
      refine (de_onceB 3 (by omega) (by omega) HD.out.1).mono ?_
      rintro e w3 ⟨b, rfl, hd⟩
      have HBS := hideP (HBS.out.drew hd hW)
      have HLab := hideP (HLab.out.drew hd hW (by omega))
      have HBt := hideP (HBt.out.drew hd hW hPW)
      have HD := hideP (HD.out.trans hd)
      clear hd
      go_upto_if 22 with fail
      go_cut [6] (fun s wx => s = .pointer (some ⟨w1.heap.size, 0, none⟩) ∧ ∃ (p2 : Option Addr) (c2 : Nat) (p3 : Option Addr) (c3 : Nat) (po : Option Addr) (no co : Nat), Hid (BS wx w.heap.size v bs) ∧ Hid (Lab wx w.heap.size (w.heap.size + 1 + 1) p2 c2) ∧ Hid (Bt wx w.heap.size w1.heap.size p3 c3 po no co a1) ∧ Hid (Drew W cb w wx))
      case first =>
        cases b
        · have ca : w3.cell? ⟨(w.heap.size + 1 + 1), 0, none⟩ = some (.slice p 4 c) := (HLab.out.a.cell 0).trans rfl
          obtain ⟨ls9, hl9, hr9⟩ := HLab.out.o
          have HL9 := hideP hl9
          have HR9 : Hid (w3.ownsRow w.heap.size 3 1 (.slice p 4 c) 4 (icell ls9)) := hideP (by unfold RowI at hr9; rwa [hl9] at hr9)
          clear hl9 hr9
          have ce := cell_alloc_keepB ca (.cells #[] 3)
          go_wp2_with (at_builtin; refine wpList_append_rd _ rfl _ _ 39 rfl w3.heap.size 3 i0 (.int .i64 0) 1 8 Try.underlying39 hi hz0 hz1 hz2 rfl (by decide) _ 0 [] rfl (owns_lit (Nat.le_refl _) rfl (by decide) rfl rfl) _ 4 _ (icell ls9) rfl (by simp [icell, HL9.out]) (rd_of_owns (World.ownsRow.alloc HR9.out _)) ?ca1 ?cb1 ?cc1 ?cd1 ?_)
          case ca1 => simp [icell, Value.oneCell']
          case cb1 => unfold maxLen; omega
          case cc1 => omega
          case cd1 => simp
          intro v9 w9 ho9 hg9
          obtain ⟨p9, c9, rfl, _⟩ := owns_slice ho9
          have hb9 : Below w3.heap.size w3 w9 := Below.grown (below_a1 w3 _) hg9 (by simp) (fun q e => by cases e; exact Nat.le_refl _)
          have hwz : w.heap.size ≤ w3.heap.size := HD.out.2.size
          have NR := hideP (owns_mono ho9 hwz)
          have HBS := hideP (HBS.out.below hb9)
          have HLab := hideP (HLab.out.below hb9)
          have HBt := hideP (HBt.out.below hb9)
          have HD := hideP (HD.out.below hb9)
          clear hg9 hb9 ho9
          have b0 : w9.cell? ⟨w1.heap.size, 0, none⟩ = some (.slice p1 4 c1) := (HBt.out.b.cell 0).trans rfl
          have fb0 : w9.frozen? ⟨w1.heap.size, 0, none⟩ = false := HBt.out.b.frozen 0
          have NR9 : Hid (RowI w9 w.heap.size (.slice p9 4 c9) ls9) := hideP (by unfold RowI; rw [HL9.out]; exact NR.out)
          have HD := hideP (HD.out.set (g := w1.heap.size) (i := 0) (v := .slice p9 4 c9) hW (by omega))
          have HBS : Hid (BS (w9.setCell ⟨w1.heap.size, 0, none⟩ (.slice p9 4 c9)) w.heap.size v bs) := hideP (HBS.out.setB HBt.out HVB.out)
          have HLab : Hid (Lab (w9.setCell ⟨w1.heap.size, 0, none⟩ (.slice p9 4 c9)) w.heap.size (w.heap.size + 1 + 1) p c) := hideP (HLab.out.setB HBt.out HPA)
          have HBt := hideP (HBt.out.setB HL9.out NR9.out)
          clear ca ce NR NR9 HR9 HL9
          go_wp2
          go_meet
          exact ⟨rfl, _, _, _, _, _, _, _, HBS, HLab, HBt, HD⟩
        · go_wp2
          go_meet
          exact ⟨rfl, _, _, _, _, _, _, _, HBS, HLab, HBt, HD⟩
      case rest =>
      clear HBS HLab HBt HD
      obtain ⟨rfl, p2, c2, p3, c3, po, no, co, HBS, HLab, HBt, HD⟩ := hcut
      obtain ⟨wa, hwa⟩ : ∃ x, x = wc := ⟨_, rfl⟩
      have bl : wc.cell? ⟨w1.heap.size, 0, none⟩ = some (.slice p3 4 c3) := (HBt.out.b.cell 0).trans rfl
      have la : wc.cell? ⟨(w.heap.size + 1 + 1), 0, none⟩ = some (.slice p2 4 c2) := (HLab.out.a.cell 0).trans rfl
      have fla : wc.frozen? ⟨(w.heap.size + 1 + 1), 0, none⟩ = false := HLab.out.a.frozen 0
      have HBS1 : Hid (BS (wc.setCell ⟨(w.heap.size + 1 + 1), 0, none⟩ (.slice p3 4 c3)) w.heap.size v bs) := hideP (HBS.out.setL HLab.out)
      have HLab1 : Hid (Lab (wc.setCell ⟨(w.heap.size + 1 + 1), 0, none⟩ (.slice p3 4 c3)) w.heap.size (w.heap.size + 1 + 1) p3 c3) := hideP (by obtain ⟨l9, h9, h8⟩ := HBt.out.l; exact HLab.out.setL h9 h8)
      have HBt1 : Hid (Bt (wc.setCell ⟨(w.heap.size + 1 + 1), 0, none⟩ (.slice p3 4 c3)) w.heap.size w1.heap.size p3 c3 po no co a1) := hideP (HBt.out.setL HLab.out (Ne.symm HPA))
      have HD1 := hideP (HD.out.set (g := (w.heap.size + 1 + 1)) (i := 0) (v := .slice p3 4 c3) hW (by omega))
      clear HBS HLab HBt HD hwa wa
      go_wp2_with fail
      refine (de_onceB 2 (by omega) (by omega) HD1.out.1).mono ?_
      rintro e w4 ⟨b2, rfl, hd⟩
      have HBS := hideP (HBS1.out.drew hd hW)
      have HLab := hideP (HLab1.out.drew hd hW (by omega))
      have HBt := hideP (HBt1.out.drew hd hW hPW)
      have HD := hideP (HD1.out.trans hd)
      clear hd HBS1 HLab1 HBt1 HD1 bl la fla
      go_upto_if 32 with fail
      go_cut [6] (fun s wx => s = .pointer (some ⟨w1.heap.size, 0, none⟩) ∧ ∃ (p2 : Option Addr) (c2 : Nat) (p3 : Option Addr) (c3 : Nat) (po : Option Addr) (no co : Nat), Hid (BS wx w.heap.size v bs) ∧ Hid (Lab wx w.heap.size (w.heap.size + 1 + 1) p2 c2) ∧ Hid (Bt wx w.heap.size w1.heap.size p3 c3 po no co a1) ∧ Hid (Drew W cb w wx))
      case first =>
        cases b2
        · go_wp2
          go_meet
          exact ⟨rfl, _, _, _, _, _, _, _, HBS, HLab, HBt, HD⟩
        · go_wp2_with fail
          refine (de_below 4 (by omega) (by omega) HD.out.1).mono ?_
          rintro e w5 ⟨kk, rfl, kk0, kk1, hd⟩
          obtain ⟨k, rfl⟩ := Int.eq_ofNat_of_zero_le kk0
          have HBS := hideP (HBS.out.drew hd hW)
          have HLab := hideP (HLab.out.drew hd hW (by omega))
          have HBt := hideP (HBt.out.drew hd hW hPW)
          have HD := hideP (HD.out.trans hd)
          have hk4 : k < 4 := by omega
          clear hd
          have ca : w5.cell? ⟨(w.heap.size + 1 + 1), 0, none⟩ = some (.slice p3 4 c3) := (HLab.out.a.cell 0).trans rfl
          obtain ⟨ls9, hl9, hr9⟩ := HLab.out.o
          have HL9 := hideP hl9
          have HR9 : Hid (w5.ownsRow w.heap.size 3 1 (.slice p3 4 c3) 4 (icell ls9)) := hideP (by unfold RowI at hr9; rwa [hl9] at hr9)
          clear hl9 hr9
          have HBS5 := hideP HBS.out
          have HLab5 := hideP HLab.out
          have HBt5 := hideP HBt.out
          have ce := cell_alloc_keepB ca (.cells #[] 3)
          go_wp2_with (at_builtin; refine wpList_append_rd _ rfl _ _ 39 rfl w5.heap.size 3 i0 (.int .i64 0) 1 8 Try.underlying39 hi hz0 hz1 hz2 rfl (by decide) _ 0 [] rfl (owns_lit (Nat.le_refl _) rfl (by decide) rfl rfl) _ 4 _ (icell ls9) rfl (by simp [icell, HL9.out]) (rd_of_owns (World.ownsRow.alloc HR9.out _)) ?ca2 ?cb2 ?cc2 ?cd2 ?_)
          case ca2 => simp [icell, Value.oneCell']
          case cb2 => unfold maxLen; omega
          case cc2 => omega
          case cd2 => simp
          intro v9 w9 ho9 hg9
          obtain ⟨p9, c9, rfl, _⟩ := owns_slice ho9
          have hb9 : Below w5.heap.size w5 w9 := Below.grown (below_a1 w5 _) hg9 (by simp) (fun q e => by cases e; exact Nat.le_refl _)
          have hwz : w.heap.size ≤ w5.heap.size := HD.out.2.size
          have NR := hideP (owns_mono ho9 hwz)
          have HBS := hideP (HBS.out.below hb9)
          have HLab := hideP (HLab.out.below hb9)
          have HBt := hideP (HBt.out.below hb9)
          have HD := hideP (HD.out.below hb9)
          clear hg9
          obtain ⟨g, hg5, hgl, rfl⟩ : ∃ g, w5.heap.size ≤ g ∧ g < w9.heap.size ∧ p9 = some ⟨g, 0, none⟩ := by
            obtain ⟨_, h2⟩ := ho9
            rcases h2 with ⟨_, hn⟩ | ⟨g, cap, cur, e, hb, hg, _⟩
            · omega
            · cases e
              exact ⟨g, by omega, (Array.getElem?_eq_some_iff.1 hg).1, rfl⟩
          obtain ⟨x, hx⟩ := some_at (l := ls9) (k := k) (by have := HL9.out; omega)
          have hc9 : w9.cell? ⟨g, k, none⟩ = some (.int .i64 x) := by
            rcases rd_of_owns ho9 with h | ⟨b, o, e, _, hc⟩
            · have h7 := HL9.out
              simp [icell] at h
              rw [h] at h7
              simp at h7
            · cases e
              have := hc k (.int .i64 x) (by simp [icell, hx])
              simpa using this
          have HX : Hid (RowI w9 w.heap.size (.slice (some ⟨g, 0, none⟩) 4 c9) ls9) := hideP (by unfold RowI; rw [HL9.out]; exact NR.out)
          have HF9 := hideP (owns_at ho9 (j := k) (by omega)).2
          have l0 : w9.cell? ⟨(w.heap.size + 1 + 1), 0, none⟩ = some (.slice p3 4 c3) := (HLab.out.a.cell 0).trans rfl
          have fl0 : w9.frozen? ⟨(w.heap.size + 1 + 1), 0, none⟩ = false := HLab.out.a.frozen 0
          have HLabA := hideP (HLab.out.setL HL9.out HX.out)
          have HK : Hid (KeptP (fun q => q = (w.heap.size + 1 + 1) ∨ w5.heap.size ≤ q) w5 (w9.setCell ⟨(w.heap.size + 1 + 1), 0, none⟩ (.slice (some ⟨g, 0, none⟩) 4 c9))) := hideP (((KeptP.of_below (P := fun q => q = (w.heap.size + 1 + 1) ∨ w5.heap.size ≤ q) hb9).setCell (p := ⟨(w.heap.size + 1 + 1), 0, none⟩) (.inl rfl) _))
          have HXA : Hid (RowI (w9.setCell ⟨(w.heap.size + 1 + 1), 0, none⟩ (.slice (some ⟨g, 0, none⟩) 4 c9)) w.heap.size (.slice (some ⟨g, 0, none⟩) 4 c9) ls9) := hideP (HX.out.kept (kept_set w9 (w.heap.size + 1 + 1) 0 _) (rowI_ne HLab.out.a (by decide) _ _ HX.out))
          have hne : g ≠ (w.heap.size + 1 + 1) := by have := HLab5.out.a.lt; omega
          have HDA := hideP (HD.out.set (g := (w.heap.size + 1 + 1)) (i := 0) (v := .slice (some ⟨g, 0, none⟩) 4 c9) hW (by omega))
          have HC : Hid ((w9.setCell ⟨(w.heap.size + 1 + 1), 0, none⟩ (.slice (some ⟨g, 0, none⟩) 4 c9)).cell? ⟨g, k, none⟩ = some (.int .i64 x)) := hideP (by rw [← hc9]; exact World.cell?_setCell_far w9 ⟨(w.heap.size + 1 + 1), 0, none⟩ ⟨g, k, none⟩ _ (Ne.symm hne))
          have HFA : Hid ((w9.setCell ⟨(w.heap.size + 1 + 1), 0, none⟩ (.slice (some ⟨g, 0, none⟩) 4 c9)).frozen? ⟨g, k, none⟩ = false) := hideP (by obtain ⟨q1, q2⟩ := HXA.out; exact (owns_at (show World.ownsRow _ _ _ 1 (.slice (some ⟨g, 0, none⟩) 4 c9) 4 _ from (by have := HXA.out; unfold RowI at this; rw [HL9.out] at this; exact this)) (j := k) (by omega)).2)
          clear hb9 ho9 hx hc9 NR HF9 ca ce HR9 HBS HLab HBt HD
          go_upto_region 13 with fail
          obtain ⟨wz, hwz'⟩ : ∃ x, x = w9.setCell ⟨(w.heap.size + 1 + 1), 0, none⟩ (.slice (some ⟨g, 0, none⟩) 4 c9) := ⟨_, rfl⟩
          rw [← hwz'] at HLabA HK HXA HDA HC HFA ⊢
          clear hwz' l0 fl0
          have a0 : wz.cell? ⟨(w.heap.size + 1 + 1), 0, none⟩ = some (.slice (some ⟨g, 0, none⟩) 4 c9) := (HLabA.out.a.cell 0).trans rfl
          have fa0 : wz.frozen? ⟨(w.heap.size + 1 + 1), 0, none⟩ = false := HLabA.out.a.frozen 0
          have e0 : wz.cell? ⟨g, k, none⟩ = some (.int .i64 x) := HC.out
          have fe0 : wz.frozen? ⟨g, k, none⟩ = false := HFA.out
          have k4 : (k : Int) < 4 := by omega
          have HFIN : Hid (∀ z : Int, BS (wz.setCell ⟨g, k, none⟩ (.int .i64 z)).drew w.heap.size v bs ∧ Lab (wz.setCell ⟨g, k, none⟩ (.int .i64 z)).drew w.heap.size (w.heap.size + 1 + 1) (some ⟨g, 0, none⟩) c9 ∧ Bt (wz.setCell ⟨g, k, none⟩ (.int .i64 z)).drew w.heap.size w1.heap.size p3 c3 po no co a1 ∧ Drew W cb w (wz.setCell ⟨g, k, none⟩ (.int .i64 z)).drew) := hideP (fun z => by
            have K := HK.out.setCell (p := ⟨g, k, none⟩) (.inr hg5) (.int .i64 z)
            have KI : ∀ u ls, RowI w5 w.heap.size u ls → ∀ q, u.ownBlock = some q → ¬ (q = (w.heap.size + 1 + 1) ∨ w5.heap.size ≤ q) := fun u ls hr q e h => h.elim (row_ne hr HLab5.out.a (by decide) q e) (fun h => by have := (World.ownsRow.lt hr q e).2; omega)
            have Kd : Below (wz.setCell ⟨g, k, none⟩ (.int .i64 z)).heap.size (wz.setCell ⟨g, k, none⟩ (.int .i64 z)) (wz.setCell ⟨g, k, none⟩ (.int .i64 z)).drew := (Below.refl _ _).drew
            refine ⟨(HBS5.out.kept K (fun q e h => h.elim (row_ne HBS5.out.row HLab5.out.a (by decide) q e) (fun h => by have := (HBS5.out.row.lt q e).2; omega)) KI).below Kd, Lab.below ⟨HLabA.out.a.other k _ (Ne.symm hne), ls9.set k z, by rw [List.length_set]; exact HL9.out, ?_⟩ Kd, (HBt5.out.kept K (fun h => h.elim (fun e => HPA e.symm) (fun h => by have := HBt5.out.b.lt; omega)) KI).below Kd, (HDA.out.set (g := g) (i := k) (v := .int .i64 z) hW (by omega)).below Kd⟩
            have h9 : wz.ownsRow w.heap.size 3 1 (.slice (some ⟨g, 0, none⟩) 4 c9) 4 (icell ls9) := by have := HXA.out; unfold RowI at this; rw [HL9.out] at this; exact this
            have h8 := (h9.stored k (.int .i64 z)).1
            unfold RowI
            rw [List.length_set, HL9.out, show icell (ls9.set k z) = (icell ls9).set k (.int .i64 z) by simp [icell, List.map_set]]
            exact h8)
          clear HBS5 HLab5 HBt5 HL9 HX HLabA HK HXA HDA HC HFA
          go_still_tail 11, (by kernel_rfl)
          go_wp2
          all_goals
            go_meet
            obtain ⟨q1, q2, q3, q4⟩ := HFIN.out _
            exact ⟨rfl, _, _, _, _, _, _, _, hideP q1, hideP q2, hideP q3, hideP q4⟩
      case rest =>
      clear HBS HLab HBt HD
      obtain ⟨rfl, p4, c4, p5, c5, po5, no5, co5, HBS, HLab, HBt, HD⟩ := hcut
      go_wp2_with fail
      refine (de_onceB 6 (by omega) (by omega) HD.out.1).mono ?_
      rintro e w6 ⟨b3, rfl, hd⟩
      have HBS := hideP (HBS.out.drew hd hW)
      have HLab := hideP (HLab.out.drew hd hW (by omega))
      have HBt := hideP (HBt.out.drew hd hW hPW)
      have HD := hideP (HD.out.trans hd)
      clear hd
      go_upto_if 52 with fail
      go_cut [6] (fun s wx => s = .pointer (some ⟨w1.heap.size, 0, none⟩) ∧ ∃ (p2 : Option Addr) (c2 : Nat) (p3 : Option Addr) (c3 : Nat) (po : Option Addr) (no co : Nat), Hid (BS wx w.heap.size v bs) ∧ Hid (Lab wx w.heap.size (w.heap.size + 1 + 1) p2 c2) ∧ Hid (Bt wx w.heap.size w1.heap.size p3 c3 po no co a1) ∧ Hid (Drew W cb w wx))
      case first =>
        cases b3
        · go_wp2
          go_meet
          exact ⟨rfl, _, _, _, _, _, _, _, HBS, HLab, HBt, HD⟩
        · go_wp2_with fail
          refine (de_below 4 (by omega) (by omega) HD.out.1).mono ?_
          rintro e w7 ⟨z, rfl, z0, z1, hd⟩
          have HBS := hideP (HBS.out.drew hd hW)
          have HLab := hideP (HLab.out.drew hd hW (by omega))
          have HBt := hideP (HBt.out.drew hd hW hPW)
          have HD := hideP (HD.out.trans hd)
          have HZ0 : Hid (RowI (w7.alloc (.cells #[.int .i64 z] 3)) w.heap.size (.slice (some ⟨w7.heap.size, 0, none⟩) 1 1) [z]) := hideP (owns_lit (by have := HD.out.2.size; omega) rfl (by decide) rfl rfl)
          have hba := below_a1 w7 (.cells #[.int .i64 z] 3)
          have HBS := hideP (HBS.out.below hba)
          have HLab := hideP (HLab.out.below hba)
          have HBt := hideP (HBt.out.below hba)
          have HD := hideP (HD.out.below hba)
          clear hd hba
          have b1 : (w7.alloc (.cells #[.int .i64 z] 3)).cell? ⟨w1.heap.size, 1, none⟩ = some (.slice po5 no5 co5) := (HBt.out.b.cell 1).trans rfl
          have fb1 : (w7.alloc (.cells #[.int .i64 z] 3)).frozen? ⟨w1.heap.size, 1, none⟩ = false := HBt.out.b.frozen 1
          have HBS := hideP (HBS.out.setB (i := 1) (u := .slice (some ⟨w7.heap.size, 0, none⟩) 1 1) HBt.out HVB.out)
          have HLab := hideP (HLab.out.setB (i := 1) (u := .slice (some ⟨w7.heap.size, 0, none⟩) 1 1) HBt.out HPA)
          have HBt := hideP (HBt.out.setO rfl (Nat.le_refl _) HZ0.out)
          have HD := hideP (HD.out.set (g := w1.heap.size) (i := 1) (v := .slice (some ⟨w7.heap.size, 0, none⟩) 1 1) hW (by omega))
          go_wp2
          go_meet
          exact ⟨rfl, _, _, _, _, _, _, _, HBS, HLab, HBt, HD⟩
      case rest =>
      clear HBS HLab HBt HD
      obtain ⟨rfl, p6, c6, p7, c7, po7, no7, co7, HBS, HLab, HBt, HD⟩ := hcut
      have b0 : wc.cell? ⟨w1.heap.size, 0, none⟩ = some (.slice p7 4 c7) := (HBt.out.b.cell 0).trans rfl
      have b1 : wc.cell? ⟨w1.heap.size, 1, none⟩ = some (.slice po7 no7 co7) := (HBt.out.b.cell 1).trans rfl
      have b2 : wc.cell? ⟨w1.heap.size, 2, none⟩ = some (.int .i64 a1.p) := (HBt.out.b.cell 2).trans rfl
      have b3 : wc.cell? ⟨w1.heap.size, 3, none⟩ = some (.int .i64 a1.r) := (HBt.out.b.cell 3).trans rfl
      have b4 : wc.cell? ⟨w1.heap.size, 4, none⟩ = some (.int .i64 a1.c) := (HBt.out.b.cell 4).trans rfl
      obtain ⟨vp, vc, rfl, _⟩ := owns_slice HBS.out.row
      go_wp2_with (at_builtin; refine wpList_append_rd _ rfl _ _ 26 rfl w.heap.size 45 j0 (.agg #[.slice none 0 0, .slice none 0 0, .int .i64 0, .int .i64 0, .int .i64 0]) 5 72 Try.underlying26 hj hy0 hy1 hy2 rfl (by decide) _ bs.length (bxs bs) rfl (World.ownsRow.alloc HBS.out.row _) _ 1 1 [.slice p7 4 c7, .slice po7 no7 co7, .int .i64 a1.p, .int .i64 a1.r, .int .i64 a1.c] rfl rfl (rd_lit rfl) ?ea ?eb ?ec ?ed ?_)
      case ea => simp [Value.oneCell']
      case eb => unfold maxLen; omega
      case ec => omega
      case ed => have := HD.out.2.size; simp; omega
      intro v9 w9 ho9 hg9
      have hba := below_a1 wc (.cells #[.slice p7 4 c7, .slice po7 no7 co7, .int .i64 a1.p, .int .i64 a1.r, .int .i64 a1.c] 45)
      have HBA := hideP (HBS.out.below hba)
      have HLA := hideP (HLab.out.below hba)
      have HTA := hideP (HBt.out.below hba)
      obtain ⟨l7, h7, h7'⟩ := HTA.out.l
      obtain ⟨l8, h8, hn8, h8'⟩ := HTA.out.o
      have HBS9 : Hid (BS w9 w.heap.size v9 (bs ++ [(⟨l7, l8, a1⟩, .slice p7 4 c7, .slice po7 no7 co7)])) := hideP (HBA.out.snoc h7' h8' ⟨by simp; omega, by simp; omega⟩ ho9 rfl hg9)
      have HLab9 : Hid (Lab w9 w.heap.size (w.heap.size + 1 + 1) p6 c6) := hideP (HLA.out.kept (KeptP.of_grown hg9) (fun e => row_ne HBA.out.row HLA.out.a (by decide) _ e rfl) (fun u ls hr q hq hq' => row_ne2 hr HBA.out.row (by decide) q hq hq'))
      have HD9 := hideP ((HD.out.below hba).own hg9 hW (fun q e => (HBA.out.row.lt q e).1))
      have hl9 : (bs ++ [(⟨l7, l8, a1⟩, .slice p7 4 c7, .slice po7 no7 co7)] : List (Boot × Value × Value)).length = bs.length + 1 := by simp
      clear ho9 hg9 hba HBA HLA HTA h7 h7' h8 h8' HBS HLab HBt HD b0 b1 b2 b3 b4
      go_wp2
      go_roundg (gk - 1)
      case measure => omega
      case rel => exact ⟨_, m - 1, _, _, _, by omega, by rw [hl9]; omega, by rw [hl9]; omega, rfl, by go_num, HBS9, HLab9, HD9⟩
    · have d0 : ¬ ((m : Int) > 0) := by omega
      go_wp2
      go_ret
      exact ⟨v, bs, rfl, HBS.out, by omega, by omega, HD.out⟩

end Go.Proofs.Ytnchmenpgmlpdaa
