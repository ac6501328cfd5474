/- Code, on states of typed data; loops. -/
import Derived.Test.YtiimdlkeikcfiaaGreatVU
namespace Go.Proofs.YtiimdlkeikcfiaaGreat.V
open Go.RowKit M

section
variable {P : Program} {T : TyT} {VT : VTab}
theorem VW.mono {c : Code} {s : VSt} {Q Q' : Exit → VSt → Prop} (h : VW P c s Q) (hq : ∀ e s, Q e s → Q' e s) : VW P c s Q' :=
  ⟨fun st hs => (h.run st hs).mono fun e st' ⟨s', h1, h2⟩ => ⟨s', h1, hq _ _ h2⟩⟩
/-- A state seen with less. -/
theorem VW.sub {c : Code} {s s' : VSt} {Q : Exit → VSt → Prop} (hnt : s'.nt = s.nt) (hs : subV s s') (h : VW P c s' Q) : VW P c s Q :=
  ⟨fun st h1 => h.run st (sub_ok h1 hnt hs)⟩
def thenV (K : VSt → Prop) (Q : Exit → VSt → Prop) (e : Exit) (s : VSt) : Prop :=
  match e with
  | .normal => K s
  | e => Q e s
def blockV (id : Nat) (Q : Exit → VSt → Prop) (e : Exit) (s : VSt) : Prop :=
  match e with
  | .exit id' => match Nat.beq id' id with
    | true => Q .normal s
    | false => Q (.exit id') s
  | e => Q e s
def goV (P : Program) (T : TyT) (VT : VTab) (sp : List Nat) (c : Code) (s : VSt) (Q : Exit → VSt → Prop) : Prop :=
  match c with
  | .skip => Q .normal s
  | .exit id => Q (.exit id) s
  | .ret => Q .ret s
  | .seq x y => goV P T VT sp x s (thenV (fun s' => goV P T VT sp y s' Q) Q)
  | .cond c x y => match evV s.tm c with
    | .av (.one (.sc (.bool b))) => brP b (goV P T VT sp x s Q) (goV P T VT sp y s Q)
    | _ => False
  | .block id c => goV P T VT sp c s (blockV id Q)
  | .loop c => VW P (.loop c) s Q
  | .region id ops d => match memB id sp with
    | true => VW P (.region id ops d) s Q
    | false => match d with
      | false => runV P T VT ops ops.toList s [] (fun s' names => settle s' names (fun s' => normW names s' fun s' => Q .normal s'))
      | true => sideP (P.follows .mixedOrders) (runDV P T VT ops 0 ops.toList s [] (fun s' acc => sideP (checkV ops acc.reverse) (settle s' (namesOf acc) (fun s' => normW (namesOf acc) s' fun s' => Q .normal s'))))
  | _ => False
theorem goV_ok (hT : TOk P T) (hV : VTOk T VT) {sp : List Nat} : ∀ (c : Code) {s : VSt} {Q : Exit → VSt → Prop}, goV P T VT sp c s Q → VW P c s Q
  | .skip, s, Q, h => ⟨fun st hs => MW.skip ⟨s, hs, h⟩⟩
  | .exit _, s, Q, h => ⟨fun st hs => MW.exit ⟨s, hs, h⟩⟩
  | .ret, s, Q, h => ⟨fun st hs => MW.ret ⟨s, hs, h⟩⟩
  | .seq x y, s, Q, h => ⟨fun st hs => MW.seq (((goV_ok hT hV x h).run st hs).mono fun e st' ⟨s', h1, h2⟩ => by
    cases e with
    | normal => exact (goV_ok hT hV y h2).run st' h1
    | _ => exact ⟨s', h1, h2⟩)⟩
  | .cond c x y, s, Q, h => ⟨fun st hs => by
    unfold goV at h
    split at h
    · rename_i b hb
      have h1 := hs.ev c
      rw [hb] at h1
      have h1 : evS st.tm c = .v (.bool b) := h1
      refine MW.cond h1 ?_
      cases b
      · exact ⟨fun e => (by cases e), fun _ => (goV_ok hT hV y h).run st hs⟩
      · exact ⟨fun _ => (goV_ok hT hV x h).run st hs, fun e => (by cases e)⟩
    · cases h⟩
  | .block id c, s, Q, h => ⟨fun st hs => MW.block (((goV_ok hT hV c h).run st hs).mono fun e st' ⟨s', h1, h2⟩ => by
    cases e with
    | exit id' =>
      simp only [blockV] at h2
      unfold blockM
      by_cases e : id' = id
      · subst e; rw [beq_yes] at h2; exact .inl ⟨rfl, s', h1, h2⟩
      · rw [beq_no e] at h2; exact .inr ⟨e, s', h1, h2⟩
    | _ => exact ⟨s', h1, h2⟩)⟩
  | .loop c, _, _, h => h
  | .region id ops d, s, Q, h => by
    unfold goV at h
    cases e : memB id sp with
    | true => rw [e] at h; exact h
    | false =>
      rw [e] at h
      cases d with
      | false => exact VW.reg hT hV h
      | true => exact VW.drw hT hV h.ok.1 h.ok.2
  | .rangeFunc .., _, _, h => h.elim
  | .scope .., _, _, h => h.elim
  | .label .., _, _, h => h.elim
  | .goto .., _, _, h => h.elim
theorem VW.loop {c : Code} {Q : Exit → VSt → Prop} (I : Nat → VSt → Prop) (round : ∀ n s, I n s → VW P c s (thenV (fun s' => ∃ m, m < n ∧ I m s') Q)) {n : Nat} {s : VSt} (h : I n s) : VW P (.loop c) s Q := by
  refine ⟨fun st hs => MW.loop (fun n st => ∃ s, Sim s st ∧ I n s) (fun n st ⟨s, h1, h2⟩ => ((round n s h2).run st h1).mono fun e st' ⟨s', h3, h4⟩ => ?_) (n := n) ⟨s, hs, h⟩⟩
  cases e with
  | normal =>
    obtain ⟨m, h5, h6⟩ := h4
    exact ⟨m, h5, s', h3, h6⟩
  | _ => exact ⟨s', h3, h4⟩
/-- A loop: states that are told by a value, of which each round makes a smaller one. -/
theorem goV_loop (hT : TOk P T) (hV : VTOk T VT) (sp : List Nat) {α : Type} {c : Code} {Q : Exit → VSt → Prop} {s : VSt} (S : α → VSt) (J : α → Prop) (μ : α → Nat) (x0 : α) (j0 : J x0) (hn : (S x0).nt = s.nt) (h0 : subV s (S x0))
    (round : ∀ x, J x → goV P T VT sp c (S x) (thenV (fun s' => ∃ y, J y ∧ μ y < μ x ∧ (S y).nt = s'.nt ∧ subV s' (S y)) Q)) : VW P (.loop c) s Q := by
  refine ⟨fun st hs => MW.loop (fun n st => ∃ x, J x ∧ μ x = n ∧ Sim (S x) st) (fun n st ⟨x, jx, hm, h1⟩ => ((goV_ok hT hV c (round x jx)).run st h1).mono fun e st' ⟨s', h3, hq⟩ => ?_) (n := μ x0) ⟨x0, j0, rfl, sub_ok hs hn h0⟩⟩
  cases e with
  | normal =>
    obtain ⟨y, h4, h5, h6, h7⟩ := hq
    exact ⟨μ y, by omega, y, h4, rfl, sub_ok h3 h6 h7⟩
  | _ => exact ⟨s', h3, hq⟩
end
end Go.Proofs.YtiimdlkeikcfiaaGreat.V
