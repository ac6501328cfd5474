/- []Obj: the data; sz. -/
import Derived.Test.YtpiaahkfnefplaaRowsOwn
import Derived.Test.YtpiaahkfnefplaaObjTo
import Derived.Test.YtpiaahkfnefplaaMsgTo
import Derived.Deep.LoopGhost
namespace Go.Proofs.Ytpiaahkfnefplaa
open Go.RowKit

/-- What a row of things reads as. -/
def ThingsRd (w : World) (p : Option Addr) (l : List Thing) : Prop :=
  ∀ (k : Nat) (x : Thing), l[k]? = some x → ∃ b o vl vd vq, p = some ⟨b, o, none⟩ ∧ b < w.heap.size ∧ ThIs w x vl vd vq ∧ ∀ (j : Nat) (u : Value), (x.cells vl vd vq)[j]? = some u → w.cell? ⟨b, o + k * 13 + j, none⟩ = some u
theorem ThingsRd.below {w w' : World} {p : Option Addr} {l : List Thing} (h : ThingsRd w p l) (hb : Below w.heap.size w w') : ThingsRd w' p l := by
  intro k x hx
  obtain ⟨b, o, vl, vd, vq, rfl, hlt, hi, hc⟩ := h k x hx
  have hs := hb.size
  exact ⟨b, o, vl, vd, vq, rfl, by omega, hi.below hb, fun j u hu => (hb.cell (p := ⟨b, _, none⟩) hlt).trans (hc j u hu)⟩
/-- Lists short enough, a waiting number that is one. -/
def Short (m : Nat) (l : List Thing) : Prop := ∀ x ∈ l, (x.links.length ≤ m ∧ x.data.length ≤ m ∧ x.queue.length ≤ m) ∧ Hid (I64 x.wait)
theorem Short.mono {m n : Nat} {l : List Thing} (h : Short m l) (hm : m ≤ n) : Short n l := fun x hx => by
  obtain ⟨⟨h1, h2, h3⟩, h4⟩ := h x hx
  exact ⟨⟨by omega, by omega, by omega⟩, h4⟩
def thingCells (x : Thing) : List Value → List Value
  | [a, b, c] => x.cells a b c
  | _ => []
def thingOwnL (w : World) (base : Nat) (x : Thing) (vs : List Value) : Prop := ∃ vl vd vq, vs = [vl, vd, vq] ∧ ObjOwn w base x vl vd vq
theorem mine3 {a b c : Value} {g : Nat} : mineL [a, b, c] g ↔ a.ownBlock = some g ∨ b.ownBlock = some g ∨ c.ownBlock = some g := by
  unfold mineL
  simp
def KThing : Kind Thing where
  cells := thingCells
  s := 13
  T := 55
  own := thingOwnL
  len := fun {w b x vs} h => by obtain ⟨vl, vd, vq, rfl, _⟩ := h; rfl
  kept := fun {P w w' b x vs} h k hg => by
    obtain ⟨vl, vd, vq, rfl, h⟩ := h
    exact ⟨vl, vd, vq, rfl, k.owns h.l (fun g e => hg g (mine3.2 (.inl e))), k.owns h.d (fun g e => hg g (mine3.2 (.inr (.inl e)))), k.owns h.q (fun g e => hg g (mine3.2 (.inr (.inr e)))), h.ld, h.lq, h.dq⟩
  lt := fun {w b x vs} h g hg => by
    obtain ⟨vl, vd, vq, rfl, h⟩ := h
    rcases mine3.1 hg with e | e | e
    · exact h.l.lt g e
    · exact h.d.lt g e
    · exact h.q.lt g e
  mono := fun {w b b' x vs} h hb => by
    obtain ⟨vl, vd, vq, rfl, h⟩ := h
    exact ⟨vl, vd, vq, rfl, owns_mono h.l hb, owns_mono h.d hb, owns_mono h.q hb, h.ld, h.lq, h.dq⟩
theorem ThingsOwn.rd {w : World} {base : Nat} {p : Option Addr} {c n : Nat} {l : List Thing} {rs : List (List Value)} {tl : List Value} (h : RowsOwn KThing w base (.slice p n c) n l rs tl) : ThingsRd w p l := by
  intro k x hx
  obtain ⟨vs, hv, ho⟩ := h.at hx
  obtain ⟨g, cap, e, hb, hg, hc, _⟩ := h.cell (by decide) hx hv
  obtain ⟨vl, vd, vq, rfl, ho⟩ := ho
  cases e
  exact ⟨g, 0, vl, vd, vq, rfl, hg, ⟨owns_sl ho.l, owns_sl ho.d, owns_sl ho.q⟩, fun j u hu => by rw [Nat.zero_add]; exact hc j u hu⟩
def thingsSize : List Thing → Nat
  | [] => 0
  | x :: l => thingSize x + thingsSize l
theorem thingsSize_mem {l : List Thing} {x : Thing} (h : x ∈ l) : thingSize x ≤ thingsSize l := by
  induction l with
  | nil => cases h
  | cons y l ih =>
    rw [thingsSize]
    rcases List.mem_cons.1 h with rfl | h
    · omega
    · have := ih h; omega
theorem thingsSize_drop {l : List Thing} {k : Nat} {x : Thing} (h : l[k]? = some x) : thingsSize (l.drop k) = thingSize x + thingsSize (l.drop (k + 1)) := by
  rw [drop_cons h, thingsSize]
set_option maxRecDepth 100000 in
set_option maxHeartbeats 8000000 in
theorem szObjS_any (l : List Thing) (p : Option Addr) (c : Nat) (left0 : Int) (h0 : 0 ≤ left0 ∧ left0 ≤ 1048576) (hl : l.length ≤ maxLen) (hs : Short maxLen l) (w : World) (h : ThingsRd w p l) :
    Calls Try.prog 56 #[.slice p l.length c, .int .i64 left0] w fun e w' => e = .returned (.int .i64 (szLeft left0 (l.length + thingsSize l))) ∧ Below w.heap.size w w' := by
  have hl63 := hl
  unfold maxLen at hl63
  obtain ⟨h01, h02⟩ := h0
  have HR := hideP h
  have HS := hideP hs
  clear h hs
  by_cases c0 : left0 < (l.length : Int)
  · have HS : Hid (szLeft left0 (l.length + thingsSize l) = -1) := hideP (szLeft_no (by omega))
    have d1 : left0 - (l.length : Int) < 0 := by omega
    go_enter Try.func56, Try.ntmps56
    go_wp2
    go_ret
    exact ⟨ret_int HS.out.symm, Below.refl _ _⟩
  have d1 : ¬ (left0 - (l.length : Int) < 0) := by omega
  have zw : IntKind.i64.wrap (left0 - (l.length : Int)) = left0 - (l.length : Int) := IntWalk.i64_in _ (by omega)
  go_enter Try.func56, Try.ntmps56
  go_wp2
  clear zw
  go_loopg [1, 5] (l.length + 1) (fun gk q i wr => ∃ (k : Nat) (left : Int), l.length < gk + k ∧ k ≤ l.length ∧ i = .int .i64 (k : Int) ∧ q = .int .i64 left ∧ (0 ≤ left ∧ left ≤ 1048576) ∧ Hid (szLeft left0 (l.length + thingsSize l) = szLeft left (thingsSize (l.drop k))) ∧ Hid (Below w.heap.size w wr))
  case atStart => exact ⟨0, left0 - (l.length : Int), by omega, by omega, rfl, rfl, by omega, hideP (by
    rw [List.drop_zero]
    by_cases c2 : left0 < ((l.length + thingsSize l : Nat) : Int)
    · rw [szLeft_no c2, szLeft_no (by omega)]
    · rw [szLeft_yes c2, szLeft_yes (by omega)]; omega), hideP (Below.refl _ _)⟩
  case round =>
    clear d1
    obtain ⟨k, left, hgk, hk, rfl, rfl, hlf, hs, HB⟩ := hrel
    by_cases hlt : k < l.length
    · obtain ⟨x, hx⟩ := some_at (l := l) (k := k) hlt
      obtain ⟨b, o, vl, vd, vq, rfl, hbw, hth, hz9⟩ := HR.out.below HB.out k x hx
      obtain ⟨⟨al, cl, rfl, _, _⟩, ⟨ad, cd, rfl, _, _⟩, ⟨aq, cq, rfl, _, _⟩⟩ := hth
      obtain ⟨⟨m1, m2, m3⟩, _⟩ := HS.out x (List.mem_of_getElem? hx)
      have g0 : World.cell? _ ⟨b, o + k * 13, none⟩ = some (.int .i64 x.gen) := hz9 0 _ rfl
      have g1 : World.cell? _ ⟨b, o + k * 13 + 1, none⟩ = some (.int .i64 x.kind) := hz9 1 _ rfl
      have g2 : World.cell? _ ⟨b, o + k * 13 + 2, none⟩ = some (.int .i64 x.box) := hz9 2 _ rfl
      have g3 : World.cell? _ ⟨b, o + k * 13 + 3, none⟩ = some (.int .i64 x.res) := hz9 3 _ rfl
      have g4 : World.cell? _ ⟨b, o + k * 13 + 4, none⟩ = some (.int .i64 x.til) := hz9 4 _ rfl
      have g5 : World.cell? _ ⟨b, o + k * 13 + 5, none⟩ = some (.int .i64 x.pages) := hz9 5 _ rfl
      have g6 : World.cell? _ ⟨b, o + k * 13 + 6, none⟩ = some (.int .i64 x.wait) := hz9 6 _ rfl
      have g7 : World.cell? _ ⟨b, o + k * 13 + 7, none⟩ = some (.int .i64 x.got) := hz9 7 _ rfl
      have g8 : World.cell? _ ⟨b, o + k * 13 + 8, none⟩ = some (.int .i64 x.ran) := hz9 8 _ rfl
      have g9 : World.cell? _ ⟨b, o + k * 13 + 9, none⟩ = some (.bool x.mark) := hz9 9 _ rfl
      have g10 : World.cell? _ ⟨b, o + k * 13 + 10, none⟩ = some (.slice al x.links.length cl) := hz9 10 _ rfl
      have g11 : World.cell? _ ⟨b, o + k * 13 + 11, none⟩ = some (.slice ad x.data.length cd) := hz9 11 _ rfl
      have g12 : World.cell? _ ⟨b, o + k * 13 + 12, none⟩ = some (.slice aq x.queue.length cq) := hz9 12 _ rfl
      have k0 : (0 : Int) ≤ (k : Int) := by omega
      have k1 : (k : Int) < (l.length : Int) := by omega
      have HD := hideP (thingsSize_drop hx)
      clear hx hz9
      go_wp2_with fail
      refine (szObj_any x _ _ _ al ad aq cl cd cq m1 m2 m3 rfl rfl rfl left hlf _).mono ?_
      rintro e w1 ⟨rfl, hb1⟩
      have HB := hideP (HB.out.trans (hb1.mono HB.out.size))
      clear hb1 g0 g1 g2 g3 g4 g5 g6 g7 g8 g9 g10 g11 g12
      by_cases c2 : left < ((thingSize x : Nat) : Int)
      · have HS : Hid (szLeft left0 (l.length + thingsSize l) = -1) := hideP (by rw [hs.out, szLeft_no (by rw [HD.out]; omega)])
        rw [szLeft_no c2]
        clear hs
        go_wp2
        go_ret
        exact ⟨ret_int HS.out.symm, HB.out⟩
      · have HS : Hid (szLeft left0 (l.length + thingsSize l) = szLeft (left - ((thingSize x : Nat) : Int)) (thingsSize (l.drop (k + 1)))) := hideP (by
          rw [hs.out, HD.out]
          by_cases c3 : left < ((thingSize x + thingsSize (l.drop (k + 1)) : Nat) : Int)
          · rw [szLeft_no c3, szLeft_no (by omega)]
          · rw [szLeft_yes c3, szLeft_yes (by omega)]; omega)
        rw [szLeft_yes c2]
        obtain ⟨lf, hlf2⟩ : ∃ lf, lf = left - ((thingSize x : Nat) : Int) := ⟨_, rfl⟩
        rw [← hlf2] at HS ⊢
        have d2 : ¬ (lf < 0) := by omega
        have hlf3 : 0 ≤ lf ∧ lf ≤ 1048576 := by omega
        clear hs hlf2 c2
        go_wp2
        go_roundg (gk - 1)
        case measure => omega
        case rel => exact ⟨k + 1, lf, by omega, by omega, by go_num, rfl, hlf3, HS, HB⟩
    · have HS : Hid (szLeft left0 (l.length + thingsSize l) = left) := hideP (by
        rw [hs.out, List.drop_eq_nil_of_le (by omega), thingsSize, szLeft_yes (by omega)]
        omega)
      have d2 : ¬ ((k : Int) < (l.length : Int)) := by omega
      clear hs
      go_wp2
      go_ret
      exact ⟨ret_int HS.out.symm, HB.out⟩

end Go.Proofs.Ytpiaahkfnefplaa
