/- Code; what a function gives. -/
import Derived.Test.YtiimdlkeikcfiaaGreatMN
import Derived.LoopN
namespace Go.Proofs.YtiimdlkeikcfiaaGreat.M
open Go.RowKit

section
variable {P : Program} {T : TyT}

/-- Code leads from a state to states. -/
structure MW (P : Program) (c : Code) (st : St) (Q : Exit → St → Prop) : Prop where
  run : ∀ (w0 : World) (O : Own) (a : Act) (w : World) (G : Gh) (QQ : Exit → Act → World → Prop), Inv w0 O st a w G → (∀ e st' a' w' G', Q e st' → Inv w0 O st' a' w' G' → QQ e a' w') → c.wp P QQ a w

def thenM (K : St → Prop) (Q : Exit → St → Prop) : Exit → St → Prop
  | .normal, st => K st
  | e, st => Q e st

theorem MW.seq {x y : Code} {st : St} {Q : Exit → St → Prop} (h : MW P x st (thenM (fun st' => MW P y st' Q) Q)) : MW P (.seq x y) st Q := by
  refine ⟨fun w0 O a w G QQ hI hQ => ?_⟩
  refine wp_seq (h.run w0 O a w G _ hI (fun e st' a' w' G' hq hI' => ?_))
  cases e with
  | normal => exact hq.run w0 O a' w' G' QQ hI' hQ
  | _ => exact hQ _ _ _ _ _ hq hI'

theorem MW.mono {c : Code} {st : St} {Q Q' : Exit → St → Prop} (h : MW P c st Q) (hq : ∀ e st, Q e st → Q' e st) : MW P c st Q' :=
  ⟨fun w0 O a w G QQ hI hQ => h.run w0 O a w G QQ hI (fun e st' a' w' G' h1 h2 => hQ e st' a' w' G' (hq _ _ h1) h2)⟩

theorem MW.skip {st : St} {Q : Exit → St → Prop} (h : Q .normal st) : MW P .skip st Q := ⟨fun _ _ _ _ _ _ hI hQ => wp_skip (hQ _ _ _ _ _ h hI)⟩
theorem MW.exit {id : Nat} {st : St} {Q : Exit → St → Prop} (h : Q (.exit id) st) : MW P (.exit id) st Q := ⟨fun _ _ _ _ _ _ hI hQ => wp_exit (hQ _ _ _ _ _ h hI)⟩
theorem MW.ret {st : St} {Q : Exit → St → Prop} (h : Q .ret st) : MW P .ret st Q := ⟨fun _ _ _ _ _ _ hI hQ => wp_ret (hQ _ _ _ _ _ h hI)⟩

theorem MW.cond {c : Operand} {x y : Code} {st : St} {Q : Exit → St → Prop} {t : Bool} (hc : evS st.tm c = .v (.bool t)) (h : (t = true → MW P x st Q) ∧ (t = false → MW P y st Q)) : MW P (.cond c x y) st Q := by
  refine ⟨fun w0 O a w G QQ hI hQ => ?_⟩
  have e := hI.ev c
  rw [hc] at e
  refine wp_cond e.v_inv ?_
  cases t with
  | true => exact (h.1 rfl).run w0 O a w G QQ hI hQ
  | false => exact (h.2 rfl).run w0 O a w G QQ hI hQ

theorem MW.yes {c : Operand} {x y : Code} {st : St} {Q : Exit → St → Prop} {t : Bool} (hc : evS st.tm c = .v (.bool t)) (ht : t = true) (h : MW P x st Q) : MW P (.cond c x y) st Q := MW.cond hc ⟨fun _ => h, fun e => (by rw [ht] at e; cases e)⟩
theorem MW.no {c : Operand} {x y : Code} {st : St} {Q : Exit → St → Prop} {t : Bool} (hc : evS st.tm c = .v (.bool t)) (ht : t = false) (h : MW P y st Q) : MW P (.cond c x y) st Q := MW.cond hc ⟨fun e => (by rw [ht] at e; cases e), fun _ => h⟩

def blockM (id : Nat) (Q : Exit → St → Prop) : Exit → St → Prop
  | .exit id', st => (id' = id ∧ Q .normal st) ∨ (id' ≠ id ∧ Q (.exit id') st)
  | e, st => Q e st

theorem MW.block {id : Nat} {c : Code} {st : St} {Q : Exit → St → Prop} (h : MW P c st (blockM id Q)) : MW P (.block id c) st Q := by
  refine ⟨fun w0 O a w G QQ hI hQ => ?_⟩
  refine wp_block (h.run w0 O a w G _ hI (fun e st' a' w' G' hq hI' => ?_))
  cases e with
  | exit id' =>
    unfold Exit.inBlock
    rcases hq with ⟨rfl, hq⟩ | ⟨hne, hq⟩
    · simp only [if_true]; exact hQ _ _ _ _ _ hq hI'
    · simp only [if_neg hne]; exact hQ _ _ _ _ _ hq hI'
  | _ => exact hQ _ _ _ _ _ hq hI'

theorem rounds_le {c : Code} {Q : Exit → Act → World → Prop} : ∀ {m n : Nat}, m ≤ n → ∀ {a : Act} {w : World}, Code.rounds P c Q m a w → Code.rounds P c Q n a w
  | 0, _, _, _, _, h => h.elim
  | m + 1, n + 1, hmn, a, w, h => by
    rw [rounds_succ] at h ⊢
    refine wp_mono h (fun e a w hq => ?_)
    cases e with
    | normal => exact rounds_le (by omega) hq
    | _ => exact hq

theorem MW.loop {c : Code} {Q : Exit → St → Prop} (I : Nat → St → Prop) (round : ∀ n st, I n st → MW P c st (thenM (fun st' => ∃ m, m < n ∧ I m st') Q)) {n : Nat} {st : St} (h : I n st) : MW P (.loop c) st Q := by
  refine ⟨fun w0 O a w G QQ hI hQ => ?_⟩
  refine wp_loop_rounds (n + 1) ?_
  have key : ∀ n st, I n st → ∀ a w G, Inv w0 O st a w G → Code.rounds P c QQ (n + 1) a w := by
    intro n
    induction n using Nat.strongRecOn with
    | _ n ih =>
      intro st h a w G hI
      rw [rounds_succ]
      refine (round n st h).run w0 O a w G _ hI (fun e st' a' w' G' hq hI' => ?_)
      cases e with
      | normal =>
        obtain ⟨m, hm, hq⟩ := hq
        exact rounds_le (by omega) (ih m hm st' hq a' w' G' hI')
      | _ => exact hQ _ _ _ _ _ hq hI'
  exact key n st h a w G hI

theorem MW.region (hT : TOk P T) {id : Nat} {ops : Array Oper} {st : St} {Q : Exit → St → Prop} (h : runP P T ops 0 ops.toList st (fun st' => Q .normal st')) : MW P (.region id ops false) st Q := by
  refine ⟨fun w0 O a w G QQ hI hQ => ?_⟩
  obtain ⟨s', h1, h2⟩ := runP_ops (Q := QQ) hT ops.toList 0 (fun j => by simp) h
  refine wp_region ?_
  have := h2 w0 O a w G hI (fun a' w' G' hI' => hQ _ _ _ _ _ h1 hI')
  rw [List.range_eq_range']
  simpa using this

theorem Inv.drawn {w0 : World} {O : Own} {st : St} {a : Act} {w : World} {G : Gh} (h : Inv w0 O st a w G) (n : Nat) : Inv w0 O st a { w with drawn := n } G := by
  have hw : ∀ β, β < w.heap.size → ({ w with drawn := n } : World).heap[β]? = w.heap[β]? := fun _ _ => rfl
  exact ⟨fun t => (h.tm t).grow hw, fun m b hb => (h.bl m b hb).grow hw, h.own, h.vr, h.inj, ⟨h.fr.os, h.fr.tape, h.fr.output, h.fr.size, h.fr.block⟩, h.nt, h.df, h.pin⟩

theorem MW.draw (hT : TOk P T) (hm : P.follows .mixedOrders = true) {id : Nat} {ops : Array Oper} {st : St} {Q : Exit → St → Prop} (h : runD P T ops 0 ops.toList st [] (fun acc st' => checkD ops acc.reverse = true ∧ Q .normal st')) : MW P (.region id ops true) st Q := by
  refine ⟨fun w0 O a w G QQ hI hQ => ?_⟩
  obtain ⟨L, s', ⟨h1, h2⟩, h3, h4, h5⟩ := runD_runs hT ops.toList 0 (fun j => by simp) h
  rw [List.append_nil, List.reverse_reverse] at h1
  have hlen : L.length = ops.size := by rw [← List.length_map (f := It.i), h4]; simp
  refine wp_region_any hm (runs_any (w0 := w0) (O := O) (s' := s') (fun a' w' G' hI' => hQ _ _ _ _ _ h2 hI') ops.size _ L st a _ G (by simp) (fun i hi => ?_) (by omega) (chk_of h1) h3 (hI.drawn _))
  simp only [Array.getD_eq_getD_getElem?]
  have : i ∈ L.map (·.i) := by rw [h4]; simp [List.mem_range']; omega
  obtain ⟨x, hx, hxi⟩ := List.mem_map.1 this
  simp [hi]
  exact ⟨x, hx, hxi⟩

/-! ### Functions -/
/-- What is known of the values may be less. -/
inductive Sub : MV → MV → Prop where
  | any {m : MV} : Sub m .any
  | refl {m : MV} : Sub m m
  | tr {own : Bool} {sz len : Nat} {f g : Nat → Nat → MV} (h : ∀ i j, i < len → j < sz → Sub (f i j) (g i j)) : Sub (.tr own sz len f) (.tr own sz len g)

theorem RC.sub {m m' : MV} (h : Sub m m') : ∀ {w : World} {G : Gh} {k : List Nat} {c : Value}, RC w G k m c → RC w G k m' c := by
  induction h with
  | any => exact fun _ => .any
  | refl => exact fun h => h
  | tr h ih =>
    intro w G k c hr
    cases hr with
    | tr0 hz => exact .tr0 hz
    | tr g hk hf hb hlen hmax hg h1 hr => exact .tr g hk hf hb hlen hmax hg h1 (fun i j hi hj => ih i j hi hj (hr i j hi hj))

/-- What is owned of a tree. -/
def cleanO : MV → MV
  | .v c => .v c
  | .tr true sz len f => .tr true sz len (fun i j => cleanO (f i j))
  | _ => .any

/-- The cell that a path leads to. -/
def cellAt : (Nat → Nat → MV) → List Nat → MV
  | f, [i, j] => f i j
  | f, i :: j :: a :: r => match f i j with
    | .tr true _ _ f' => cellAt f' (a :: r)
    | _ => .any
  | _, _ => .any
def isNilM (m : MV) : Bool :=
  match m with
  | .v (.slice none 0 0) => true
  | _ => false
theorem cellAt_snoc {sz len i j : Nat} {f' : Nat → Nat → MV} : ∀ (s : List Nat) {f : Nat → Nat → MV}, cellAt f s = .tr true sz len f' → cellAt f (s ++ [i, j]) = f' i j
  | [], f, h => by cases h
  | [_], f, h => by cases h
  | [a, b], f, h => by
    have h : f a b = .tr true sz len f' := h
    show (match f a b with | .tr true _ _ f' => cellAt f' [i, j] | _ => .any) = _
    rw [h]
    rfl
  | a :: b :: c :: r, f, h => by
    unfold cellAt at h
    show (match f a b with | .tr true _ _ f' => cellAt f' ((c :: r) ++ [i, j]) | _ => .any) = _
    split at h
    · exact cellAt_snoc (c :: r) h
    · cases h
theorem cellAt_desc {b : Blk} {s : List Nat} (hs : s ≠ []) : ∀ (p : List Nat) {b0 : Blk}, descP b0 p (fun x => x = b) → cellAt b0.f (p ++ s) = cellAt b.f s
  | [], b0, h => by
    have h : b0 = b := h
    subst h; rfl
  | [_], b0, h => h.elim
  | i :: j :: p, b0, h => by
    obtain ⟨_, _, h⟩ := h
    obtain ⟨x, r, e⟩ : ∃ x r, p ++ s = x :: r := by
      cases e : p ++ s with
      | nil => exact absurd (List.append_eq_nil_iff.1 e).2 hs
      | cons x r => exact ⟨x, r, rfl⟩
    split at h
    · rename_i z len f heq
      rw [← cellAt_desc hs p h, List.cons_append, List.cons_append, e]
      show (match b0.f i j with | .tr true _ _ f' => cellAt f' (x :: r) | _ => .any) = _
      rw [heq]
    · exact h.elim
/-- What of a node is told; a slice of nothing is an empty one. -/
inductive Cln : MV → MV → Prop where
  | any {m : MV} : Cln m .any
  | v {c : Value} : Cln (.v c) (.v c)
  | nil {sz : Nat} {f : Nat → Nat → MV} : Cln (.v (.slice none 0 0)) (.tr true sz 0 f)
  | tr {sz len : Nat} {f g : Nat → Nat → MV} (h : ∀ i j, i < len → j < sz → Cln (f i j) (g i j)) : Cln (.tr true sz len f) (.tr true sz len g)
theorem Cln.of_sub {m : MV} : ∀ {m' : MV}, Sub (cleanO m) m' → Cln m m' := by
  have no : ∀ {m m' : MV}, Sub .any m' → Cln m m' := fun h => by cases h <;> exact .any
  induction m with
  | v c =>
    intro m' h
    cases h with
    | any => exact .any
    | refl => exact .v
  | tr own sz len f ih =>
    intro m' h
    cases own with
    | false => exact no h
    | true =>
      cases h with
      | any => exact .any
      | refl => exact .tr fun i j _ _ => ih i j .refl
      | tr h => exact .tr fun i j hi hj => ih i j (h i j hi hj)
  | _ => exact no
theorem R.cln {w : World} {G G' : Gh} {κ κ' : List Nat} {f0 : Nat → Nat → MV} (hκ : κ' ≠ []) (hm : ∀ β s, G.key β = κ ++ s → G'.key β = κ' ++ s ∧ G'.base β = G.base β) (hz : ∀ s, s ≠ [] → G'.zero (κ' ++ s) = (G.zero (κ ++ s) || isNilM (cellAt f0 s))) {k : List Nat} {m : MV} {c : Value} (h : R w G k m c) :
    ∀ s, s ≠ [] → k = κ ++ s → cellAt f0 s = m → ∀ {m' : MV}, Cln m m' → RC w G' (κ' ++ s) m' c := by
  induction h with
  | v =>
    intro s hs0 _ hc m' h
    cases h with
    | any => exact .any
    | v => exact .v
    | nil => exact .tr0 (fun e => ⟨by simp [hκ], by rw [hz s hs0, hc]; simp [isNilM]⟩)
  | tr0 hz2 =>
    intro s hs0 hs _ m' h
    cases h with
    | any => exact .any
    | tr _ => exact .tr0 (fun e => ⟨by simp [hκ], by rw [hz s hs0, ← hs, (hz2 e).2]; rfl⟩)
  | @tr k own sz len cap β o f g hk2 hf hb hlen hmax hg h1' hr ih =>
    intro s hs0 hs hc m' h
    cases h with
    | any => exact .any
    | tr h =>
      refine .tr g (fun e => ?_) (by simp) hb hlen hmax hg h1' (fun i j hi hj => ?_)
      · obtain ⟨e1, e2, e3, e4⟩ := hk2 e
        obtain ⟨a1, a2⟩ := hm β s (e1.trans hs)
        exact ⟨a1, by simp [hκ], a2.trans e3, by rw [hz s hs0, ← hs, e4, hc]; rfl⟩
      · have := ih i j hi hj (s ++ [i, j]) (by simp) (by subst hs; simp) (cellAt_snoc s hc) (h i j hi hj)
        simpa using this
  | _ => exact fun _ _ _ _ _ h => by cases h; exact .any

abbrev Took := List (Nat × List Nat)

/-- A part of a result: what it is, and the node that is given away. -/
inductive Col (bl : Nat → Option Blk) (vr : Nat → Nat) : Nat → MV → MV → Took → Prop where
  | any {q : Nat} {m : MV} : Col bl vr q m .any []
  | v {q : Nat} {c c' : Value} (h : c = c') : Col bl vr q (.v c) (.v c') []
  | nil {q sz : Nat} {own : Bool} {f : Nat → Nat → MV} : Col bl vr q (.v (.slice none 0 0)) (.tr own sz 0 f) []
  | ref {q n ver sz len len' : Nat} {p : List Nat} {b : Blk} {g : Nat → Nat → MV} (hv : ver = vr n) (he : len = len') (hn : nodeP bl (n :: p) (fun x => x = b)) (hb : b.sz = sz ∧ len' ≤ b.len) (h : ∀ i j, i < len' → j < sz → Cln (b.f i j) (g i j)) :
      Col bl vr q (.ref (n :: p) ver sz 0 len) (.tr true sz len' g) [(q, n :: p)]

def colN (bl : Nat → Option Blk) (vr : Nat → Nat) (b : Nat) (f g : Nat → MV) : Nat → Took → (Took → Prop) → Prop
  | 0, L, K => K L
  | n + 1, L, K => colN bl vr b f g n L (fun L => ∃ L1, Col bl vr (b + n) (f n) (g n) L1 ∧ K (L1 ++ L))

def col1 (bl : Nat → Option Blk) (vr : Nat → Nat) (b : Nat) (m m' : MV) (L : Took) (K : Took → Prop) : Prop :=
  match m, m' with
  | .agg n f, .agg n' g => Nat.beq n n' = true ∧ colN bl vr b f g n L K
  | m, m' => ∃ L1, Col bl vr b m m' L1 ∧ K (L1 ++ L)

def colT (bl : Nat → Option Blk) (vr : Nat → Nat) (f g : Nat → MV) : Nat → Took → (Took → Prop) → Prop
  | 0, L, K => K L
  | n + 1, L, K => colT bl vr f g n L (fun L => col1 bl vr (64 * n) (f n) (g n) L K)

def colM (bl : Nat → Option Blk) (vr : Nat → Nat) (m m' : MV) (K : Took → Prop) : Prop :=
  match m, m' with
  | .tup n f, .tup n' g => Nat.beq n n' = true ∧ colT bl vr f g n [] K
  | m, m' => col1 bl vr 0 m m' [] K

def apartB : List Nat → List Nat → Bool
  | a :: p, b :: q => if Nat.beq a b then apartB p q else true
  | _, _ => false

def tookB : Took → Bool
  | [] => true
  | (q, k) :: L => (L.all fun x => !Nat.beq q x.1 && apartB k x.2) && Nat.blt q 1000000 && !k.isEmpty && tookB L

def capZ : Value → Bool
  | .slice _ _ 0 => true
  | _ => false

/-- Owners of a result. -/
def nilK (bl : Nat → Option Blk) (k : List Nat) : Bool :=
  match k with
  | [] => false
  | n :: p => match bl n with
    | some b => isNilM (cellAt b.f p)
    | none => false
theorem nilK_at {bl : Nat → Option Blk} {n : Nat} {p s : List Nat} {b : Blk} (hs : s ≠ []) (h : nodeP bl (n :: p) (fun x => x = b)) : nilK bl (n :: p ++ s) = isNilM (cellAt b.f s) := by
  simp only [nodeP] at h
  simp only [List.cons_append, nilK]
  split at h
  · rename_i b0 hb
    rw [hb]
    simp only
    rw [cellAt_desc hs p h]
  · exact h.elim
def Gh.out (bl : Nat → Option Blk) (G : Gh) (N : Nat) (L : Took) (vals : Nat → Value) : Gh :=
  ⟨fun β => match G.key β with
    | [] => if β < N then [1000000] else []
    | x :: k => match L.findSome? (fun y => (stripP y.2 (x :: k)).map fun s => y.1 :: s) with
      | some k => k
      | none => [],
    G.base, fun _ => 0, fun k => match k with
      | [] => false
      | q :: s => match s with
        | [] => capZ (vals q)
        | _ :: _ => match L.find? (fun x => Nat.beq x.1 q) with
          | some x => G.zero (x.2 ++ s) || nilK bl (x.2 ++ s)
          | none => true⟩
theorem out_key {bl : Nat → Option Blk} {G : Gh} {N : Nat} {L : Took} {vals : Nat → Value} {β : Nat} (h : G.key β ≠ []) : (Gh.out bl G N L vals).key β = (match L.findSome? (fun y => (stripP y.2 (G.key β)).map fun s => y.1 :: s) with
      | some k => k
      | none => []) := by
  simp only [Gh.out]
  cases e : G.key β with
  | nil => exact absurd e h
  | cons x k => rfl
theorem out_key0 {bl : Nat → Option Blk} {G : Gh} {N : Nat} {L : Took} {vals : Nat → Value} {β : Nat} (h : G.key β = []) : (Gh.out bl G N L vals).key β = if β < N then [1000000] else [] := by
  simp only [Gh.out, h]

theorem apart_no : ∀ {p q s : List Nat}, apartB p q = true → stripP p (q ++ s) = none ∧ stripP q (p ++ s) = none
  | [], _, _, h => by cases h
  | _ :: _, [], _, h => by cases h
  | a :: p, b :: q, s, h => by
    unfold apartB at h
    by_cases e : a = b
    · subst e
      simp at h
      simp [stripP, apart_no h]
    · simp [stripP, e, Ne.symm e]

theorem took_mem {x : Nat × List Nat} : ∀ {L : Took}, tookB L = true → x ∈ L → x.1 < 1000000 ∧ x.2 ≠ [] ∧ L.find? (fun y => Nat.beq y.1 x.1) = some x ∧ ∀ s, L.findSome? (fun y => (stripP y.2 (x.2 ++ s)).map fun s => y.1 :: s) = some (x.1 :: s)
  | (q, k) :: L, h, hx => by
    simp only [tookB, Bool.and_eq_true, List.all_eq_true] at h
    obtain ⟨⟨⟨h1, h2⟩, h2'⟩, h3⟩ := h
    rcases List.mem_cons.1 hx with rfl | hx
    · refine ⟨blt_iff.1 h2, by simpa using h2', by simp, fun s => ?_⟩
      simp [List.findSome?_cons, stripP_iff.2 rfl]
    · obtain ⟨a1, a0, a2, a3⟩ := took_mem h3 hx
      have h4 := h1 x hx
      refine ⟨a1, a0, ?_, fun s => ?_⟩
      · have : Nat.beq q x.1 = false := by simpa using h4.1
        simp only [List.find?_cons, this]
        exact a2
      · simp only [List.findSome?_cons]
        rw [(apart_no h4.2).1]
        exact a3 s

theorem took_find {L : Took} {k k' : List Nat} (h : L.findSome? (fun y => (stripP y.2 k).map fun s => y.1 :: s) = some k') : ∃ x ∈ L, ∃ s, k = x.2 ++ s ∧ k' = x.1 :: s := by
  obtain ⟨x, hx, he⟩ := List.exists_of_findSome?_eq_some h
  cases hs : stripP x.2 k with
  | none => rw [hs] at he; cases he
  | some s =>
    rw [hs] at he
    simp only [Option.map_some, Option.some.injEq] at he
    exact ⟨x, hx, s, stripP_iff.1 hs, he.symm⟩

/-- Who owns what of it. -/
theorem out_own {bl : Nat → Option Blk} {G : Gh} {N : Nat} {L : Took} (hL : tookB L = true) {vals : Nat → Value} {β : Nat} (hn : ¬ β < N ∨ G.key β ≠ []) (hk : (Gh.out bl G N L vals).key β ≠ []) : ∃ x ∈ L, ∃ s, G.key β = x.2 ++ s ∧ (Gh.out bl G N L vals).key β = x.1 :: s ∧ G.key β ≠ [] := by
  by_cases e : G.key β = []
  · rcases hn with hn | hn
    · rw [out_key0 e, if_neg hn] at hk
      exact absurd rfl hk
    · exact absurd e hn
  · rw [out_key e] at hk ⊢
    cases hf : L.findSome? (fun x => (stripP x.2 (G.key β)).map fun s => x.1 :: s) with
    | none => rw [hf] at hk; exact absurd rfl hk
    | some k =>
      obtain ⟨x, hx, s, h1, h2⟩ := took_find hf
      exact ⟨x, hx, s, h1, h2, e⟩
theorem out_inj {bl : Nat → Option Blk} {G : Gh} (inj : ∀ β β', G.key β ≠ [] → G.key β = G.key β' → β = β') {N : Nat} {L : Took} (hL : tookB L = true) {vals : Nat → Value} {β β' : Nat} (hn : ¬ β < N ∨ G.key β ≠ []) (hn' : ¬ β' < N ∨ G.key β' ≠ []) (hk : (Gh.out bl G N L vals).key β ≠ []) (he : (Gh.out bl G N L vals).key β = (Gh.out bl G N L vals).key β') : β = β' := by
  obtain ⟨x, hx, s, h1, h2, h3⟩ := out_own hL hn hk
  obtain ⟨x', hx', s', h1', h2', h3'⟩ := out_own hL hn' (he ▸ hk)
  rw [h2, h2'] at he
  injection he with e1 e2
  have f1 := (took_mem hL hx).2.2.1
  have f2 := (took_mem hL hx').2.2.1
  rw [← e1, f1] at f2
  injection f2 with f2
  subst f2
  subst e2
  exact inj β β' h3 (h1.trans h1'.symm)
theorem out_fresh {w0 : World} {st : St} {a : Act} {w : World} {G : Gh} (hI : Inv w0 Own.no st a w G) {L : Took} (hL : tookB L = true) (vals : Nat → Value) : Fresh w0 w (Gh.out st.bl G w0.heap.size L vals) := by
  have h0 : ∀ β, β < w0.heap.size → G.key β = [] := fun β hl => by
    cases e : G.key β with
    | nil => rfl
    | cons x k => exact ((hI.own β (by rw [e]; simp)).2 hl).elim
  refine ⟨fun β hl => by rw [out_key0 (h0 β hl), if_pos hl], fun β hl hk => ?_, fun β β' hl hk he => ?_⟩
  · obtain ⟨x, hx, s, h1, h2, h3⟩ := out_own hL (.inl (by omega)) hk
    exact ⟨(hI.own β h3).1, x.1, s, h2, (took_mem hL hx).1⟩
  · have hl' : ¬ β' < w0.heap.size := fun h => by
      rw [out_key0 (h0 β' h), if_pos h] at he
      obtain ⟨x, hx, s, h1, h2, h3⟩ := out_own hL (.inl (by omega)) hk
      rw [h2] at he
      injection he with h3 h4
      have := (took_mem hL hx).1
      omega
    exact out_inj hI.inj hL (.inl (by omega)) (.inl hl') hk he

theorem col_ok {w0 : World} {O : Own} {N : Nat} {st : St} {a : Act} {w : World} {G : Gh} (hI : Inv w0 O st a w G) {L : Took} (hL : tookB L = true) {vals : Nat → Value} {q : Nat} {m m' : MV} {L1 : Took} (h : Col st.bl st.vr q m m' L1) (h1 : ∀ x ∈ L1, x ∈ L) {c : Value} (hc : vals q = c) (hr : R w G [] m c) : RC w (Gh.out st.bl G N L vals) [q] m' c := by
  have hz : ∀ {b : Option Addr} {n : Nat}, c = .slice b n 0 → (Gh.out st.bl G N L vals).zero [q] = true := fun e => by simp only [Gh.out, hc, e, capZ]
  cases h with
  | any => exact .any
  | v h => cases h; cases hr; exact .v
  | nil => cases hr; exact .tr0 (fun _ => ⟨by simp, hz rfl⟩)
  | @ref n ver sz len len' p b g hv he hn hb hs =>
    subst he
    obtain ⟨rfl, hbl⟩ := hb
    have hxL := h1 (q, n :: p) (by simp)
    obtain ⟨t1, _, t2, t3⟩ := took_mem hL hxL
    cases hr with
    | @ref _ _ _ _ _ _ _ cap base hs' hv' hlen hmax hbs =>
      rcases Nat.eq_zero_or_pos cap with h0 | hpos
      · subst h0
        obtain rfl : len = 0 := by omega
        exact .tr0 (fun _ => ⟨by simp, hz rfl⟩)
      have hvG : ver = G.ver n := by rw [hI.vr]; exact hv
      rcases hI.node_at hn with ⟨h0, hzz⟩ | ⟨β, hβ, hbr, g', hg⟩
      · have := (hv' hvG).1 hzz
        omega
      rcases (hv' hvG).2 β hβ with h0 | ⟨rfl, hrow⟩
      · omega
      have hown := hI.own β (by rw [hβ]; simp)
      have hmv : ∀ β s, G.key β = n :: p ++ s → (Gh.out st.bl G N L vals).key β = [q] ++ s ∧ (Gh.out st.bl G N L vals).base β = G.base β := fun β s hk => by
        refine ⟨?_, rfl⟩
        rw [out_key (by rw [hk]; simp)]
        have := t3 s
        rw [hk, this]
        rfl
      have hm0 := hmv β [] (by simpa using hβ)
      have hz0 : (Gh.out st.bl G N L vals).zero [q] = false := by
        simp only [Gh.out, hc]
        obtain ⟨c', rfl⟩ : ∃ c', cap = c' + 1 := ⟨cap - 1, by omega⟩
        rfl
      simp only [Nat.zero_mul, Nat.add_zero, Nat.zero_add] at hrow ⊢
      refine .tr g' (fun _ => ⟨by simpa using hm0.1, by simp, rfl, hz0⟩) (by simp) hrow hlen hmax (fun i j hi hj => (hg i j (by omega) hj).1) (fun i j hi hj => (hg i j (by omega) hj).2.1) (fun i j hi hj => ?_)
      refine ((hg i j (by omega) hj).2.2).cln (f0 := b.f) (κ := n :: p) (κ' := [q]) (by simp) hmv (fun s hs => ?_) [i, j] (by simp) rfl rfl (hs i j hi hj)
      rw [← nilK_at hs hn]
      cases s with
      | nil => exact absurd rfl hs
      | cons x s => simp only [Gh.out, List.singleton_append, t2]

theorem colN_ok {w0 : World} {O : Own} {N : Nat} {st : St} {a : Act} {w : World} {G : Gh} (hI : Inv w0 O st a w G) {b : Nat} {f g : Nat → MV} : ∀ (n : Nat) {L : Took} {K : Took → Prop}, colN st.bl st.vr b f g n L K → ∃ L', K L' ∧ (∀ x ∈ L, x ∈ L') ∧
    ∀ {LL : Took} {vals : Nat → Value}, tookB LL = true → (∀ x ∈ L', x ∈ LL) → ∀ j, j < n → ∀ c, vals (b + j) = c → R w G [] (f j) c → RC w (Gh.out st.bl G N LL vals) [b + j] (g j) c
  | 0, L, K, h => ⟨L, h, fun _ h => h, fun _ _ j hj => absurd hj (by omega)⟩
  | n + 1, L, K, h => by
    obtain ⟨L', ⟨L1, h1, h2⟩, h3, h4⟩ := colN_ok hI n h
    refine ⟨L1 ++ L', h2, fun x hx => List.mem_append_right _ (h3 x hx), fun {LL vals} hLL hsub j hj c hc hr => ?_⟩
    rcases Nat.lt_or_ge j n with hl | hl
    · exact h4 hLL (fun x hx => hsub x (List.mem_append_right _ hx)) j hl c hc hr
    · obtain rfl : j = n := by omega
      exact col_ok hI hLL h1 (fun x hx => hsub x (List.mem_append_left _ hx)) hc hr

/-- The parts of a value. -/
def partV (b : Nat) (c : Value) (q : Nat) : Value :=
  match c with
  | .agg cs => cs.getD (q - b) undef
  | c => c

theorem col1_ok {w0 : World} {O : Own} {N : Nat} {st : St} {a : Act} {w : World} {G : Gh} (hI : Inv w0 O st a w G) {b : Nat} {m m' : MV} {L : Took} {K : Took → Prop} (h : col1 st.bl st.vr b m m' L K) : ∃ L', K L' ∧ (∀ x ∈ L, x ∈ L') ∧
    ∀ {LL : Took} {vals : Nat → Value}, tookB LL = true → (∀ x ∈ L', x ∈ LL) → ∀ c, (∀ q, b ≤ q → q < b + 64 → vals q = partV b c q) → szOk m = true → R w G [] m c → Rr1 w (Gh.out st.bl G N LL vals) b m' c := by
  unfold col1 at h
  split at h
  · rename_i n f n' g
    obtain ⟨hn, h⟩ := h
    obtain rfl := beq_of hn
    obtain ⟨L', h1, h2, h3⟩ := colN_ok (N := N) hI n h
    refine ⟨L', h1, h2, fun {LL vals} hLL hsub c hv hs hr => ?_⟩
    have hn64 := szOk_agg hs n f rfl
    cases hr with
    | agg hn g' hg h1' hr =>
      refine ⟨_, rfl, hn, fun j hj => ⟨g' j, hg j hj, h1' j hj, h3 hLL hsub j hj (g' j) ?_ (hr j hj)⟩⟩
      rw [hv (b + j) (by omega) (by omega)]
      simp only [partV]
      rw [Nat.add_sub_cancel_left, Array.getD_eq_getD_getElem?, hg j hj]
      rfl
  · rename_i hne
    obtain ⟨L1, h1, h2⟩ := h
    refine ⟨L1 ++ L, h2, fun x hx => List.mem_append_right _ hx, fun {LL vals} hLL hsub c hv hs hr => ?_⟩
    have hrc := fun hc => col_ok (N := N) (vals := vals) hI hLL h1 (fun x hx => hsub x (List.mem_append_left _ hx)) (c := c) hc hr
    have hvb := hv b (Nat.le_refl _) (by omega)
    cases h1 with
    | any => exact RC.any
    | v h => cases h; cases hr; exact RC.v
    | nil => cases hr; exact hrc hvb
    | ref => cases hr; exact hrc hvb

theorem colT_ok {w0 : World} {O : Own} {N : Nat} {st : St} {a : Act} {w : World} {G : Gh} (hI : Inv w0 O st a w G) {f g : Nat → MV} : ∀ (n : Nat) {L : Took} {K : Took → Prop}, colT st.bl st.vr f g n L K → ∃ L', K L' ∧ (∀ x ∈ L, x ∈ L') ∧
    ∀ {LL : Took} {vals : Nat → Value}, tookB LL = true → (∀ x ∈ L', x ∈ LL) → ∀ i, i < n → ∀ c, (∀ q, 64 * i ≤ q → q < 64 * i + 64 → vals q = partV (64 * i) c q) → szOk (f i) = true → R w G [] (f i) c → Rr1 w (Gh.out st.bl G N LL vals) (64 * i) (g i) c
  | 0, L, K, h => ⟨L, h, fun _ h => h, fun _ _ j hj => absurd hj (by omega)⟩
  | n + 1, L, K, h => by
    obtain ⟨L1, h1, h2, h3⟩ := colT_ok (N := N) hI n h
    obtain ⟨L2, k1, k2, k3⟩ := col1_ok (N := N) hI h1
    refine ⟨L2, k1, fun x hx => k2 x (h2 x hx), fun {LL vals} hLL hsub i hi c hv hs hr => ?_⟩
    rcases Nat.lt_or_ge i n with hl | hl
    · exact h3 hLL (fun x hx => hsub x (k2 x hx)) i hl c hv hs hr
    · obtain rfl : i = n := by omega
      exact k3 hLL hsub c hv hs hr

/-- A result is given away. -/
theorem colM_ok {w0 : World} {st : St} {a : Act} {w : World} {G : Gh} (hI : Inv w0 Own.no st a w G) {m m' : MV} (h : colM st.bl st.vr m m' (fun L => tookB L = true)) (hs : szOkM m = true) {c : Value} (hr : R w G [] m c) :
    ∃ G', Fresh w0 w G' ∧ Rr w G' m' c := by
  unfold colM at h
  split at h
  · rename_i n f n' g
    obtain ⟨hn, h⟩ := h
    obtain rfl := beq_of hn
    obtain ⟨L, hL, _, h3⟩ := colT_ok (N := w0.heap.size) hI n h
    simp only [szOkM, Bool.and_eq_true] at hs
    cases hr with
    | @tup _ _ _ cs hn g' hg hr =>
      refine ⟨Gh.out st.bl G w0.heap.size L (fun q => partV (64 * (q / 64)) (g' (q / 64)) q), out_fresh hI hL _, _, rfl, hn, fun i hi => ⟨g' i, hg i hi, h3 hL (fun _ h => h) i hi (g' i) (fun q h1 h2 => ?_) (szOkT_at hi hs.2) (hr i hi)⟩⟩
      have : q / 64 = i := by omega
      simp only [this]
  · rename_i hne
    obtain ⟨L, hL, _, h3⟩ := col1_ok (N := w0.heap.size) hI h
    have e3 : szOk m = true := by
      unfold szOkM at hs
      split at hs
      · rfl
      · exact hs
    refine ⟨Gh.out st.bl G w0.heap.size L (partV 0 c), out_fresh hI hL _, ?_⟩
    have := h3 hL (fun _ h => h) c (fun q _ _ => rfl) e3 hr
    cases m' with
    | tup n g =>
      exfalso
      unfold col1 at h
      split at h
      · rename_i heq; cases heq
      · obtain ⟨L1, h1, _⟩ := h
        cases h1
    | _ => exact this

end

end Go.Proofs.YtiimdlkeikcfiaaGreat.M
