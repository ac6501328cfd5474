/- Pointers to boxes: calls where slices of nothing may lie in the box. -/
import Derived.Test.YtiimdlkeikcfiaaGreatMW
namespace Go.Proofs.YtiimdlkeikcfiaaGreat.M
open Go.RowKit

/-- Numbers and structs of numbers. -/
inductive Sc : MV → MV → Prop where
  | any {m : MV} : Sc m .any
  | v {c : Value} : Sc (.v c) (.v c)
  | agg {n : Nat} {f g : Nat → MV} (h : ∀ i, i < n → Sc (f i) (g i)) : Sc (.agg n f) (.agg n g)
theorem Sc.r {m m' : MV} (h : Sc m m') : ∀ {w : World} {G G' : Gh} {k k' : List Nat} {c : Value}, R w G k m c → R w G' k' m' c := by
  induction h with
  | any => exact fun _ => .any
  | v => exact fun h => by cases h; exact .v
  | agg h ih =>
    intro w G G' k k' c hr
    cases hr with
    | agg hn g hg h1 hr => exact .agg hn g hg h1 (fun i hi => ih i hi (hr i hi))
def Gh.subN (bl : Nat → Option Blk) (G : Gh) (X : Nat) : Gh :=
  ⟨(G.sub X).key, G.base, fun _ => 0, fun k => match stripP [9999] k with
    | some s => G.zero (X :: s) || nilK bl (X :: s)
    | none => false⟩
section
variable {P : Program} {T : TyT}
theorem step_ptrN {st : St} {o : Oper} {f : FuncId} {args : Array Operand} {tys : Array TypeId} (ho : o.op = .call ⟨.value (.func f), args, tys⟩) (hd : dstOk st.nt o.dst = true) {X : Nat} {x0 : Operand} (h0 : args[0]? = some x0) {ver sz : Nat} (hx : evS st.tm x0 = .ptr [X] ver sz 0 0) (hv : ver = st.vr X) {b : Blk} (hb : st.bl X = some b) (hbz : b.sz = sz ∧ 0 < b.len)
    {pre post : Nat → MV} {as : List MV} {res : MV} (hc : PC P f sz pre as post res) (hpre : ∀ j, j < sz → Cln (b.f 0 j) (pre j)) (hl : args.size = as.length + 1) (ha : ∀ (i : Nat) (m : MV), as[i]? = some m → ∃ x, args[i + 1]? = some x ∧ Sc (evS st.tm x) m) :
    Step P o st ((⟨fun t => reP X (st.vr X) (st.tm t), setBl st.bl X (some ⟨sz, 1, fun _ j => post j⟩), putV st.vr X (st.vr X + 1), st.nt⟩ : St).put o.dst res) := by
  intro w0 O a w G next Q hI hk
  unfold Oper.wp
  rw [run_call ho hc.fn]
  rw [Oper.upon_enter]
  obtain ⟨rfl, hlen⟩ := hbz
  rcases hI.bl X b hb with ⟨h1, _⟩ | ⟨β0, hβ, hr, g, hg⟩
  · omega
  have hto : ∀ {β : Nat} {s : List Nat}, G.key β = X :: s → (G.subN st.bl X).key β = 9999 :: s := fun {β s} h => by
    have : stripP [X] (G.key β) = some s := stripP_iff.2 h
    show (G.sub X).key β = _
    simp only [Gh.sub, this]
  refine (hc.run w (args.map a.eval) (G.subN st.bl X) β0 (fun β h => ?_) (fun β β' h h2 => ?_) (fun _ => rfl) (hto hβ) (by simpa using hl) ?_ ⟨?_, fun j => g 0 j, fun j hj => ?_⟩ (fun i m hm => ?_)).mono ?_
  · rcases sub_key (G := G) (X := X) (β := β) with ⟨s, e, e2⟩ | ⟨_, e⟩
    · exact ⟨(hI.own β (by rw [e]; simp)).1, s, e2⟩
    · exact absurd e h
  · rcases sub_key (G := G) (X := X) (β := β) with ⟨s, e, e2⟩ | ⟨_, e⟩
    · rcases sub_key (G := G) (X := X) (β := β') with ⟨s', e', e2'⟩ | ⟨_, e'⟩
      · replace h2 : (G.sub X).key β = (G.sub X).key β' := h2
        rw [e2, e2'] at h2
        injection h2 with _ h2
        exact hI.inj β β' (by rw [e]; simp) (by rw [e, e', h2])
      · exact absurd (h2.trans e') h
    · exact absurd e h
  · have e1 := hI.ev x0
    rw [hx] at e1
    have e2 : (args.map a.eval)[0]? = some (a.eval x0) := by simp [h0]
    rw [e2]
    generalize a.eval x0 = v at e1
    cases e1 with
    | ptr hs hv' =>
      have := hv' (hv.trans (hI.vr X).symm) β0 hβ
      rw [this]
      simp [Gh.subN]
  · exact hr.le (Nat.mul_le_mul_right _ hlen)
  · obtain ⟨g1, g2, g3⟩ := hg 0 j hlen hj
    refine ⟨by simpa [Gh.subN] using g1, g2, ?_⟩
    have := g3.cln (G' := G.subN st.bl X) (κ := [X]) (κ' := [9999]) (f0 := b.f) (by simp) (fun β s h => ⟨hto h, rfl⟩) (fun s hs => by
      have : stripP [9999] (9999 :: s) = some s := stripP_iff.2 rfl
      simp only [List.singleton_append, Gh.subN, this]
      cases s with
      | nil => exact absurd rfl hs
      | cons x s => simp only [nilK, hb]) [0, j] (by simp) rfl rfl (hpre j hj)
    exact this
  · obtain ⟨x, hx1, hx2⟩ := ha i m hm
    exact ⟨a.eval x, by simp [hx1], hx2.r (hI.ev x)⟩
  · rintro e w' ⟨c, G', rfl, hbel, hown, hinj, k0, kb, hbox, hres⟩
    exact hk _ _ _ ((hI.after ⟨hbel, hown, hinj⟩ hc.own hβ k0 kb hbox).put hd (hres.flat hc.flat))

def retPQ (T : TyT) (rs : List ResultVar) (sz : Nat) (post : Nat → MV) (res : MV) (st : St) : Prop :=
  ∃ b, st.tm 0 = .ptr [9999] (st.vr 9999) sz 0 0 ∧ st.bl 9999 = some b ∧ b.sz = sz ∧ 0 < b.len ∧ (∀ j, j < sz → Cln (b.f 0 j) (post j)) ∧ resL T st rs (fun l => ∀ (w : World) (G : Gh) (c : Value), R w G [] (tupM l) c → R w G [] res c)
theorem PC.of_run (hT : TOk P T) {f : FuncId} {fn : Func} {c : Code} {sz : Nat} {pre post : Nat → MV} {as : List MV} {res : MV} (hf : P.funcs[f]? = some fn) (hn : (fn.name == "runtime.NumGoroutine") = false) (hb : fn.body = some c) (hflat : Flat res) (hpost : ∀ j, j < sz → OwnOnly (post j))
    (h : MW P c (stP sz pre as fn.ntmps) (fun e st => (e = .normal ∨ e = .ret) ∧ retPQ T fn.results.toList sz post res st)) : PC P f sz pre as post res := by
  refine ⟨⟨fn, hf, hn, by rw [hb]; rfl⟩, hflat, hpost, fun w cargs G0 β0 hown hinj hver hk0 hcs hc0 hbox hargs => ?_⟩
  refine calls_of_wp hf hb ?_
  have h0lt : 0 < cargs.size := by omega
  have hget : ∀ (i : Nat) (c : Value), cargs[i]? = some c → (cargs ++ Array.replicate (fn.ntmps - cargs.size) undef).getD i undef = c := fun i c hc => by
    have hlt := (Array.getElem?_eq_some_iff.1 hc).1
    rw [Array.getD_eq_getD_getElem?, Array.getElem?_append_left hlt, hc]; rfl
  have hI : Inv w ⟨fun β => G0.key β ≠ [], some (.pointer (some ⟨β0, G0.base β0, none⟩))⟩ (stP sz pre as fn.ntmps) { tmps := cargs ++ Array.replicate (fn.ntmps - cargs.size) undef, defers := [] } w G0 := by
    refine ⟨fun t => ?_, fun n b hb => ?_, fun β h => ⟨(hown β h).1, fun _ => h⟩, hver, hinj, ⟨rfl, rfl, rfl, Nat.le_refl _, fun _ _ _ => rfl⟩, ?_, rfl, fun v hv => ?_⟩
    · simp only [stP]
      cases t with
      | zero =>
        rw [hget 0 _ hc0]
        refine .ptr (Nat.zero_le _) (fun _ β hβ => ?_)
        obtain rfl := hinj β β0 (by rw [hβ]; simp) (hβ.trans hk0.symm)
        simp
      | succ t =>
        simp only [argT_eq]
        cases ht : as[t]? with
        | none => rw [List.getD_eq_getElem?_getD, ht]; exact .any
        | some m =>
          obtain ⟨c, hc, hr⟩ := hargs t m ht
          rw [List.getD_eq_getElem?_getD, ht, hget _ _ hc]
          exact hr
    · simp only [stP] at hb
      by_cases e : n = 9999
      · subst e
        rw [beq_yes] at hb
        injection hb with hb
        subst hb
        obtain ⟨hr, g, hg⟩ := hbox
        refine .inr ⟨β0, hk0, hr, fun _ j => g j, fun i j hi hj => ?_⟩
        simp only at hi hj
        obtain rfl : i = 0 := by omega
        obtain ⟨g1, g2, g3⟩ := hg j hj
        exact ⟨by simpa using g1, g2, g3.toR⟩
      · rw [beq_no e] at hb; cases hb
    · simp only [stP, Nat.add_mod_right]
      exact Nat.le_trans (Nat.mod_le _ _) (by simp; omega)
    · injection hv with hv
      subst hv
      exact ⟨by simp only [stP]; omega, hget 0 _ hc0⟩
  refine h.run w _ _ w G0 _ hI (fun e st' a' w' G' hq hI' => ?_)
  obtain ⟨he, b, ht, hbb, b1, b2, hpo, hret⟩ := hq
  have key : a'.defers = [] ∧ ∃ v, (results fn a'.tmps).run P w' = .ok v w' ∧ ∃ c G', Ending.returned v = .returned c ∧ Bel (fun β => G0.key β ≠ []) w w' ∧ (∀ β, G'.key β ≠ [] → β < w'.heap.size ∧ (β < w.heap.size → G0.key β ≠ []) ∧ ∃ s, G'.key β = 9999 :: s) ∧ (∀ β β', G'.key β ≠ [] → G'.key β = G'.key β' → β = β') ∧
      G'.key β0 = [9999] ∧ G'.base β0 = G0.base β0 ∧ BoxR w' G' β0 (G0.base β0) sz post ∧ R w' G' [] res c := by
    refine ⟨hI'.df, ?_⟩
    obtain ⟨l, hl1, hl2, hl3⟩ := resL_ok hT fn.results.toList hret
    obtain ⟨cs, c1, c2, c3⟩ := hl3 hI'
    have ht0 := hI'.tm 0
    rw [ht, (hI'.pin _ rfl).2] at ht0
    rcases hI'.bl 9999 b hbb with ⟨h1, _⟩ | ⟨β, hβ, hr, g, hg⟩
    · omega
    have haddr : β = β0 ∧ G'.base β = G0.base β0 := by
      cases ht0 with
      | ptr hs hv' =>
        have := hv' (hI'.vr 9999).symm β hβ
        simp at this
        exact ⟨this.1.symm, this.2.symm⟩
    obtain ⟨rfl, hbase⟩ := haddr
    have hR : R w' G' [] (tupM l) (valL cs) := by
      have hlen : l.length = cs.length := by rw [hl2, c1]
      rcases l with _ | ⟨m, _ | ⟨m2, l⟩⟩ <;> rcases cs with _ | ⟨c, _ | ⟨c', cs⟩⟩ <;> try (simp at hlen; done)
      · exact .tup rfl (fun _ => undef) (fun i hi => by simp at hi) (fun i hi => by simp at hi)
      · obtain ⟨u, u1, u2⟩ := c3 0 m rfl
        simp only [List.getElem?_cons_zero, Option.some.injEq] at u1
        subst u1
        exact u2
      · refine .tup (by simp at hlen ⊢; omega) (fun i => (c :: c' :: cs).getD i undef) (fun i hi => ?_) (fun i hi => ?_)
        · have : i < (c :: c' :: cs).length := by rw [← hlen]; exact hi
          rw [List.getD_eq_getElem?_getD, List.getElem?_toArray, List.getElem?_eq_getElem this]
          rfl
        · obtain ⟨u, u1, u2⟩ := c3 i ((m :: m2 :: l)[i]'hi) (List.getElem?_eq_getElem hi)
          rw [List.getD_eq_getElem?_getD, List.getElem?_eq_getElem hi, List.getD_eq_getElem?_getD, u1]
          exact u2
    -- the owners of the box alone
    obtain ⟨G2, hG2⟩ : ∃ G2 : Gh, G2 = ⟨fun β => match stripP [9999] (G'.key β) with | some s => 9999 :: s | none => [], G'.base, G'.ver, fun k => match stripP [9999] k with | some s => G'.zero (9999 :: s) || nilK st'.bl (9999 :: s) | none => false⟩ := ⟨_, rfl⟩
    have hone : ∀ β s, G'.key β = 9999 :: s → G2.key β = 9999 :: s := fun β s e => by
      have : stripP [9999] (G'.key β) = some s := stripP_iff.2 e
      rw [hG2]
      simp only [this]
    have hnone : ∀ β, G2.key β ≠ [] → ∃ s, G'.key β = 9999 :: s ∧ G2.key β = 9999 :: s := fun β h => by
      rcases strip_one (X := 9999) (k := G'.key β) with ⟨s, e1, e2⟩ | ⟨_, e2⟩
      · exact ⟨s, e1, hone β s e1⟩
      · rw [hG2] at h
        simp only [e2] at h
        exact absurd rfl h
    have hbase2 : ∀ β, G2.base β = G'.base β := fun β => by rw [hG2]
    refine ⟨_, results_run c2, _, G2, rfl, hI'.fr, fun β' h => ?_, fun β' β'' h h2 => ?_, hone β [] hβ, by rw [hbase2]; exact hbase, ⟨?_, fun j => g 0 j, fun j hj => ?_⟩, (hl1 _ _ _ hR).flat hflat⟩
    · obtain ⟨s, e1, e2⟩ := hnone β' h
      have := hI'.own β' (by rw [e1]; simp)
      exact ⟨this.1, this.2, s, e2⟩
    · obtain ⟨s, e1, e2⟩ := hnone β' h
      obtain ⟨s', e1', e2'⟩ := hnone β'' (h2 ▸ h)
      rw [e2, e2'] at h2
      exact hI'.inj β' β'' (by rw [e1]; simp) (by rw [e1, e1', h2])
    · rw [b1] at hr
      rw [← hbase]
      exact hr.le (Nat.mul_le_mul_right _ b2)
    · obtain ⟨g1, g2, g3⟩ := hg 0 j b2 (by rw [b1]; exact hj)
      refine ⟨by rw [← hbase]; simpa using g1, g2, ?_⟩
      have := g3.cln (G' := G2) (κ := [9999]) (κ' := [9999]) (f0 := b.f) (by simp) (fun β s h => ⟨hone β s h, hbase2 β⟩) (fun s hs => by
        have : stripP [9999] (9999 :: s) = some s := stripP_iff.2 rfl
        rw [hG2]
        simp only [List.singleton_append, this]
        cases s with
        | nil => exact absurd rfl hs
        | cons x s => simp only [nilK, hbb]) [0, j] (by simp) rfl rfl (hpo j hj)
      exact this
  rcases he with rfl | rfl
  · exact key
  · exact key
end
end Go.Proofs.YtiimdlkeikcfiaaGreat.M
