/- FnLeased: for every code a thing is there as long as its lease lasts, and no longer; then its pages come back. No condition. -/
import Derived.Test.YtiimdlkeikcfiaaGreatVW
import Derived.Test.YtiimdlkeikcfiaaGreatZClaimFnLeaseda
namespace Go.Proofs.YtiimdlkeikcfiaaGreat.M
open Go.RowKit
section
variable {P : Program} {T : TyT} {ops : Array Oper}
def depTB (ops : Array Oper) (n : Nat) (o : Oper) (i : Nat) : Bool :=
  match n with
  | 0 => false
  | n + 1 => o.after.toList.any fun e => Region.binds .any e && (Nat.beq e.on i || match ops[e.on]? with
    | some z => depTB ops n z i
    | none => false)
structure Chk2 (ops : Array Oper) (L : List It) : Prop where
  pw : L.Pairwise fun x y => x.i < y.i ∧ (depTB ops 3 y.o x.i = true ∨ Indep ops x y)
  lt : ∀ x ∈ L, ∀ e ∈ x.o.after, Region.binds .any e = true → e.on < x.i
theorem Chk2.sub {L L' : List It} (h : Chk2 ops L) (hs : L'.Sublist L) : Chk2 ops L' := ⟨h.pw.sublist hs, fun x hx => h.lt x (hs.subset hx)⟩
def DC (ops : Array Oper) (L : List It) : Prop := ∀ y ∈ L, ∀ (k : Nat) (o : Oper), ops[k]? = some o → ∀ e ∈ o.after, Region.binds .any e = true → e.on = y.i → ∃ z ∈ L, z.i = k
theorem DC.trans {L : List It} (h : DC ops L) {y : It} (hy : y ∈ L) : ∀ (n k : Nat) (o : Oper), ops[k]? = some o → depTB ops n o y.i = true → ∃ e ∈ o.after, Region.binds .any e = true ∧ ∃ z ∈ L, z.i = e.on
  | 0, k, o, _, hd => by cases hd
  | n + 1, k, o, ho, hd => by
    simp only [depTB, List.any_eq_true, Bool.and_eq_true, Bool.or_eq_true] at hd
    obtain ⟨e, he, hb, hd⟩ := hd
    replace he : e ∈ o.after := by simpa using he
    refine ⟨e, he, hb, ?_⟩
    rcases hd with hd | hd
    · exact ⟨y, hy, (Nat.eq_of_beq_eq_true hd).symm⟩
    · split at hd
      · rename_i z hz
        obtain ⟨e2, he2, hb2, z2, hz2, hi2⟩ := DC.trans h hy n e.on z hz hd
        exact h z2 hz2 e.on z hz e2 he2 hb2 hi2.symm
      · cases hd
theorem runs_any2 {Q : Exit → Act → World → Prop} {w0 : World} {O : Own} {s' : St} (hK : ∀ a w G, Inv w0 O s' a w G → Q .normal a w) : ∀ (fuel : Nat) (listed : Array Bool) (L : List It) (s : St) (a : Act) (w : World) (G : Gh), listed.size = ops.size →
    (∀ i, i < ops.size → (listed.getD i true = false ↔ ∃ x ∈ L, x.i = i)) → L.length ≤ fuel → DC ops L → Chk2 ops L → Runs P ops L s s' → Inv w0 O s a w G → wpAny P .any ops Q fuel listed a w := by
  -- an operation that may come next
  have ready : ∀ {listed : Array Bool} {i : Nat}, i ∈ Region.ready .any ops listed → i < ops.size ∧ listed.getD i true = false ∧ ∀ o, ops[i]? = some o → ∀ e ∈ o.after, Region.binds .any e = true → listed.getD e.on false = true := by
    intro listed i hi
    simp only [Region.ready, List.mem_filter, List.mem_range, Bool.and_eq_true, Bool.not_eq_true'] at hi
    refine ⟨hi.1, hi.2.1, fun o ho e he hb => ?_⟩
    have := hi.2.2
    rw [ho] at this
    simp only [Option.map_some, Option.getD_some] at this
    have := (Array.all_eq_true_iff_forall_mem.1 this) e he
    rw [hb] at this
    simpa using this
  have mem_lt : ∀ {L : List It} {s s' : St}, Runs P ops L s s' → ∀ x ∈ L, ops[x.i]? = some x.o := by
    intro L
    induction L with
    | nil => intro s s' _ x hx; cases hx
    | cons y L ih =>
      intro s s' h x hx
      rcases List.mem_cons.1 hx with rfl | hx
      · exact h.1.1
      · exact ih h.2 x hx
  have nonempty : ∀ {listed : Array Bool} {L : List It} {s : St}, listed.size = ops.size → (∀ i, i < ops.size → (listed.getD i true = false ↔ ∃ x ∈ L, x.i = i)) → Chk2 ops L → Runs P ops L s s' → Region.ready .any ops listed = [] → L = [] := by
    intro listed L s hsz hl hc hr hn
    cases L with
    | nil => rfl
    | cons x L =>
      exfalso
      have hx := hr.1.1
      have hlt : x.i < ops.size := by
        have := (Array.getElem?_eq_some_iff.1 hx).1
        exact this
      have : x.i ∈ Region.ready .any ops listed := by
        simp only [Region.ready, List.mem_filter, List.mem_range, Bool.and_eq_true, Bool.not_eq_true']
        refine ⟨hlt, (hl x.i hlt).2 ⟨x, by simp, rfl⟩, ?_⟩
        rw [hx]
        simp only [Option.map_some, Option.getD_some]
        refine Array.all_eq_true_iff_forall_mem.2 fun e he => ?_
        cases hb : Region.binds .any e with
        | false => rfl
        | true =>
          have hon := hc.lt x (by simp) e he hb
          have hon2 : e.on < ops.size := by omega
          have : listed.getD e.on true = true := by
            cases h : listed.getD e.on true with
            | true => rfl
            | false =>
              obtain ⟨y, hy, hyi⟩ := (hl e.on hon2).1 h
              rcases List.mem_cons.1 hy with rfl | hy
              · omega
              · have := (List.pairwise_cons.1 hc.pw).1 y hy
                omega
          have h2 : listed.getD e.on false = true := by
            have hlt' : e.on < listed.size := by omega
            simp [Array.getD_eq_getD_getElem?, hlt'] at this ⊢
            exact this
          simp [h2]
      rw [hn] at this
      cases this
  intro fuel
  induction fuel with
  | zero =>
    intro listed L s a w G hsz hl hlen hdc hc hr hI
    obtain rfl : L = [] := List.eq_nil_of_length_eq_zero (by omega)
    refine ⟨?_, hK a w G (hr ▸ hI)⟩
    refine List.eq_nil_iff_forall_not_mem.2 fun i hi => ?_
    obtain ⟨h1, h2, _⟩ := ready hi
    obtain ⟨x, hx, _⟩ := (hl i h1).1 h2
    cases hx
  | succ fuel ih =>
    intro listed L s a w G hsz hl hlen hdc hc hr hI
    refine ⟨fun hn => ?_, fun i hi => ?_⟩
    · obtain rfl := nonempty hsz hl hc hr hn
      exact hK a w G (hr ▸ hI)
    · obtain ⟨h1, h2, h3⟩ := ready hi
      obtain ⟨x, hx, rfl⟩ := (hl i h1).1 h2
      obtain ⟨A, B, rfl⟩ := List.append_of_mem hx
      have hxo := mem_lt hr x hx
      have hind : ∀ y ∈ A, Indep ops y x := fun y hy => by
        obtain ⟨_, hp⟩ := (List.pairwise_append.1 hc.pw).2.2 y hy x (by simp)
        rcases hp with hp | hp
        · exfalso
          obtain ⟨e, he, hb, z, hz, hzi⟩ := hdc.trans (y := y) (by simp [hy]) 3 x.i x.o hxo hp
          have h4 := h3 x.o hxo e he hb
          have hzo := mem_lt hr z hz
          have hzlt : z.i < ops.size := (Array.getElem?_eq_some_iff.1 hzo).1
          have h6 := (hl z.i hzlt).2 ⟨z, hz, rfl⟩
          rw [← hzi] at h4
          have hlt' : z.i < listed.size := by omega
          simp [Array.getD_eq_getD_getElem?, hlt'] at h4 h6
          rw [h4] at h6
          cases h6
        · exact hp
      obtain ⟨g1, g2⟩ := runs_front A hind hr
      refine g1.2.2 s ⟨fun _ _ => rfl, fun _ _ => ⟨rfl, rfl⟩, rfl⟩ w0 O a w G _ Q hI (fun a' w' G' hI' => ?_)
      have hsub : (A ++ B).Sublist (A ++ x :: B) := List.Sublist.append (List.Sublist.refl A) (List.sublist_cons_self x B)
      refine ih (listed.setIfInBounds x.i true) (A ++ B) _ a' w' G' (by simpa using hsz) (fun j hj => ?_) (by simp at hlen ⊢; omega) (fun y hy k o ho e he hb hei => ?_) (hc.sub hsub) g2 hI'
      rotate_left
      · obtain ⟨z, hz, hzk⟩ := hdc y (hsub.subset hy) k o ho e he hb hei
        refine ⟨z, ?_, hzk⟩
        rcases List.mem_append.1 hz with hz | hz
        · exact List.mem_append_left _ hz
        · rcases List.mem_cons.1 hz with rfl | hz
          · exfalso
            rw [← hzk] at ho
            have h4 := h3 o ho e he hb
            have hyo := mem_lt hr y (hsub.subset hy)
            have hylt : y.i < ops.size := (Array.getElem?_eq_some_iff.1 hyo).1
            have h6 := (hl y.i hylt).2 ⟨y, hsub.subset hy, rfl⟩
            rw [hei] at h4
            have hlt' : y.i < listed.size := by omega
            simp [Array.getD_eq_getD_getElem?, hlt'] at h4 h6
            rw [h4] at h6
            cases h6
          · exact List.mem_append_right _ hz
      
      have hone : ∀ y ∈ A ++ B, y.i ≠ x.i := fun y hy e => by
        rcases List.mem_append.1 hy with hy | hy
        · have := ((List.pairwise_append.1 hc.pw).2.2 y hy x (by simp)).1
          omega
        · have := (List.pairwise_cons.1 (List.pairwise_append.1 hc.pw).2.1).1 y hy
          omega
      by_cases e : j = x.i
      · subst e
        have hlt' : x.i < listed.size := by omega
        constructor
        · intro h
          simp [Array.getD_eq_getD_getElem?, hlt'] at h
        · rintro ⟨y, hy, e⟩
          exact absurd e (hone y hy)
      · have hset : (listed.setIfInBounds x.i true).getD j true = listed.getD j true := by
          simp [Array.getD_eq_getD_getElem?, Array.getElem?_setIfInBounds_ne (Ne.symm e)]
        rw [hset, hl j hj]
        constructor
        · rintro ⟨y, hy, rfl⟩
          refine ⟨y, ?_, rfl⟩
          rcases List.mem_append.1 hy with hy | hy
          · exact List.mem_append_left _ hy
          · rcases List.mem_cons.1 hy with rfl | hy
            · exact absurd rfl e
            · exact List.mem_append_right _ hy
        · rintro ⟨y, hy, rfl⟩
          exact ⟨y, hsub.subset hy, rfl⟩

end
end Go.Proofs.YtiimdlkeikcfiaaGreat.M
namespace Go.Proofs.YtiimdlkeikcfiaaGreat.V
open Go.RowKit M
section
variable {P : Program} {T : TyT} {VT : VTab} {ops : Array Oper}
def checkV2 (ops : Array Oper) : List Sk → Bool
  | [] => true
  | x :: L => (L.all fun y => Nat.blt x.i y.i && (depB y.o x.i || (indepV ops x y || depTB ops 3 y.o x.i))) && (x.o.after.toList.all fun e => !Region.binds .any e || Nat.blt e.on x.i) && checkV2 ops L
theorem depT_of {o : Oper} {i : Nat} (h : depB o i = true) : depTB ops 3 o i = true := by
  unfold depB at h
  rw [List.any_eq_true] at h
  obtain ⟨e, he, hb⟩ := h
  rw [Bool.and_eq_true] at hb
  simp only [depTB, List.any_eq_true, Bool.and_eq_true, Bool.or_eq_true]
  exact ⟨e, he, hb.1, .inl hb.2⟩
theorem chk2_v : ∀ {L : List Sk} {L' : List It}, SkL L L' → checkV2 ops L = true → Chk2 ops L'
  | [], _, .nil, _ => ⟨List.Pairwise.nil, by simp⟩
  | x :: L, _, .cons (y := x') (b := L') hx hL, h => by
    simp only [checkV2, Bool.and_eq_true, List.all_eq_true] at h
    obtain ⟨⟨h1, h2⟩, h3⟩ := h
    obtain ⟨k1, k2⟩ := chk2_v hL h3
    refine ⟨List.Pairwise.cons (fun y' hy' => ?_) k1, fun y' hy' => ?_⟩
    · obtain ⟨y, hy, hyy⟩ : ∃ y ∈ L, SkOf y y' := by
        clear h1 h2 h3 k1 k2
        induction hL with
        | nil => cases hy'
        | cons ha hr ih =>
          rcases List.mem_cons.1 hy' with rfl | hy'
          · exact ⟨_, List.mem_cons_self, ha⟩
          · obtain ⟨y, h1, h2⟩ := ih hy'
            exact ⟨y, List.mem_cons_of_mem _ h1, h2⟩
      have := h1 y hy
      rw [hx.i, hyy.i, hyy.o]
      rw [Bool.or_eq_true, Bool.or_eq_true] at this
      refine ⟨blt_iff.1 this.1, ?_⟩
      rcases this.2 with h | h | h
      · exact .inl (depT_of h)
      · exact .inr (indep_of (indep_v hx hyy h))
      · exact .inl h
    · rcases List.mem_cons.1 hy' with rfl | hy'
      · intro e he hb
        rw [hx.o] at he
        have := h2 e (by simpa using he)
        rw [hb] at this
        rw [hx.i]
        exact blt_iff.1 (by simpa using this)
      · exact k2 y' hy'
theorem VW.drwT (hT : TOk P T) (hV : VTOk T VT) (hm : P.follows .mixedOrders = true) {id : Nat} {s : VSt} {Q : Exit → VSt → Prop} (h : runDV P T VT ops 0 ops.toList s [] (fun s' acc => sideP (checkV2 ops acc.reverse) (settle s' (namesOf acc) (fun s' => normW (namesOf acc) s' fun s' => Q .normal s')))) : VW P (.region id ops true) s Q := by
  refine ⟨fun st hs => gs_end ⟨fun w0 O a w G QQ hI hQ => ?_⟩⟩
  obtain ⟨sk, L, s', st', h1, h2, h3, h4, h5⟩ := runDV_runs hT hV ops.toList 0 (fun j => by simp) hs h
  rw [List.append_nil] at h1
  obtain ⟨hchk, h1⟩ := h1.ok
  rw [List.reverse_reverse] at hchk
  obtain ⟨s2, st2, h6, g, h7⟩ := settle_at h2 h1
  rw [normW_eq] at h6
  have hlen : L.length = ops.size := by rw [← List.length_map (f := It.i), h5]; simp
  have hall : ∀ i, i < ops.size → ∃ x ∈ L, x.i = i := fun i hi => by
    have : i ∈ L.map (·.i) := by rw [h5]; simp [List.mem_range']; omega
    exact List.mem_map.1 this
  refine wp_region_any hm (runs_any2 (w0 := w0) (O := O) (s' := st') (fun a' w' G' hI' => hQ _ _ _ _ _ ⟨st2, g, s2, h7, h6⟩ hI') ops.size _ L st a _ G (by simp) (fun i hi => ?_) (by omega) (fun y _ k o ho _ _ _ _ => hall k (Array.getElem?_eq_some_iff.1 ho).1) (chk2_v h3 hchk) h4 (hI.drawn _))
  simp only [Array.getD_eq_getD_getElem?]
  obtain ⟨x, hx, hxi⟩ := hall i hi
  simp [hi]
  exact ⟨x, hx, hxi⟩
end
end Go.Proofs.YtiimdlkeikcfiaaGreat.V

namespace Go.Proofs.YtiimdlkeikcfiaaGreat.M
open Go.RowKit

theorem R.refKey {w : World} {G : Gh} {k k' K : List Nat} {ver sz off len : Nat} {c : Value} (h : R w G k (.ref K ver sz off len) c) : R w G k' (.ref K ver sz off len) c := by
  cases h with
  | ref hs hv hlen hmax hbs => exact .ref hs hv hlen hmax hbs
/-- Cells that are known as values are known as more. -/
theorem Inv.reval {w0 : World} {O : Own} {st : St} {a : Act} {w : World} {G : Gh} (h : Inv w0 O st a w G) {X : Nat} {b b' : Blk} (hb : st.bl X = some b) (hs : b'.sz = b.sz ∧ b'.len = b.len)
    (hf : ∀ i j, i < b.len → j < b.sz → b'.f i j = b.f i j ∨ ∃ c, b.f i j = .v c ∧ R w G ([X] ++ [i, j]) (b'.f i j) c) : Inv w0 O { st with bl := setBl st.bl X (some b') } a w G := by
  refine ⟨h.tm, fun y c hy => ?_, h.own, h.vr, h.inj, h.fr, h.nt, h.df, h.pin⟩
  unfold setBl at hy
  simp only at hy
  split at hy
  · rename_i e
    subst e
    injection hy with hy
    subst hy
    rcases h.bl y b hb with ⟨h0, h1⟩ | ⟨β, hβ, hr, g, hg⟩
    · exact .inl ⟨by rw [hs.2]; exact h0, h1⟩
    · refine .inr ⟨β, hβ, by rw [hs.1, hs.2]; exact hr, g, fun i j hi hj => ?_⟩
      rw [hs.2] at hi
      rw [hs.1] at hj ⊢
      obtain ⟨g1, g2, g3⟩ := hg i j hi hj
      refine ⟨g1, g2, ?_⟩
      rcases hf i j hi hj with e | ⟨c, e, hr⟩
      · rw [e]; exact g3
      · rw [e] at g3
        generalize g i j = u at g3
        cases g3
        exact hr
  · exact h.bl y c hy
/-- A contract that leaves some cells alone, whatever slices they hold. -/
structure PK (P : Program) (f : FuncId) (sz : Nat) (pre post : Nat → MV) (kp : Nat → Bool) (us : List MV) (res : MV) : Prop where
  fn : FnOk P f
  run : ∀ cs : Nat → Value, (∀ j, kp j = true → ∃ base len cap, cs j = .slice base len cap) → PC P f sz (fun j => bif kp j then .v (cs j) else pre j) us (fun j => bif kp j then .v (cs j) else post j) res
section
variable {P : Program} {T : TyT}
theorem step_ptrK {st : St} {o : Oper} {f : FuncId} {args : Array Operand} {tys : Array TypeId} (ho : o.op = .call ⟨.value (.func f), args, tys⟩) (hd : dstOk st.nt o.dst = true) {X : Nat} {x0 : Operand} (h0 : args[0]? = some x0) {ver sz : Nat} (hx : evS st.tm x0 = .ptr [X] ver sz 0 0) (hv : ver = st.vr X) {b : Blk} (hb : st.bl X = some b) (hbz : b.sz = sz ∧ 0 < b.len)
    {pre post : Nat → MV} {kp : Nat → Bool} {us : List MV} {res : MV} (hc : PK P f sz pre post kp us res) (hpre : ∀ j, j < sz → kp j = false → Cln (b.f 0 j) (pre j)) (hkp : ∀ j, j < sz → kp j = true → ∃ n p ver z o l, b.f 0 j = .ref (n :: p) ver z o l ∧ n ≠ X) (hl : args.size = us.length + 1) (ha : ∀ (i : Nat) (m : MV), us[i]? = some m → ∃ x, args[i + 1]? = some x ∧ Sc (evS st.tm x) m) :
    Step P o st ((⟨fun t => reP X (st.vr X) (st.tm t), setBl st.bl X (some ⟨sz, 1, fun _ j => bif kp j then b.f 0 j else post j⟩), putV st.vr X (st.vr X + 1), st.nt⟩ : St).put o.dst res) := by
  intro w0 O a w G next Q hI hk
  unfold Oper.wp
  rw [run_call ho hc.fn]
  rw [Oper.upon_enter]
  obtain ⟨rfl, hlen⟩ := hbz
  rcases hI.bl X b hb with ⟨h1, _⟩ | ⟨β0, hβ, hr, g, hg⟩
  · omega
  have hsl : ∀ j, j < b.sz → kp j = true → ∃ base len cap, g 0 j = .slice base len cap := fun j hj hk => by
    obtain ⟨n, p, ver, z, o, l, e, _⟩ := hkp j hj hk
    have := (hg 0 j hlen hj).2.2
    rw [e] at this
    generalize g 0 j = u at this
    cases this
    exact ⟨_, _, _, rfl⟩
  have hc := hc.run (fun j => if j < b.sz then g 0 j else .slice none 0 0) (fun j hk => by
    by_cases hj : j < b.sz
    · simp only [if_pos hj]; exact hsl j hj hk
    · simp only [if_neg hj]; exact ⟨_, _, _, rfl⟩)
  have hto : ∀ {β : Nat} {s : List Nat}, G.key β = X :: s → (G.subN st.bl X).key β = 9999 :: s := fun {β s} h => by
    have : stripP [X] (G.key β) = some s := stripP_iff.2 h
    show (G.sub X).key β = _
    simp only [Gh.sub, this]
  refine (hc.run w (args.map a.eval) (G.subN st.bl X) β0 (fun β h => ?_) (fun β β' h h2 => ?_) (fun _ => rfl) (hto hβ) (by simpa using hl) ?_ ⟨?_, fun j => g 0 j, fun j hj => ?_⟩ (fun i m hm => ?_)).mono ?_
  · rcases sub_key (G := G) (X := X) (β := β) with ⟨s, e, e2⟩ | ⟨_, e⟩
    · exact ⟨(hI.own β (by rw [e]; simp)).1, s, e2⟩
    · exact absurd e h
  · rcases sub_key (G := G) (X := X) (β := β) with ⟨s, e, e2⟩ | ⟨_, e⟩
    · rcases sub_key (G := G) (X := X) (β := β') with ⟨s', e', e2'⟩ | ⟨_, e'⟩
      · replace h2 : (G.sub X).key β = (G.sub X).key β' := h2
        rw [e2, e2'] at h2
        injection h2 with _ h2
        exact hI.inj β β' (by rw [e]; simp) (by rw [e, e', h2])
      · exact absurd (h2.trans e') h
    · exact absurd e h
  · have e1 := hI.ev x0
    rw [hx] at e1
    have e2 : (args.map a.eval)[0]? = some (a.eval x0) := by simp [h0]
    rw [e2]
    generalize a.eval x0 = v at e1
    cases e1 with
    | ptr hs hv' =>
      have := hv' (hv.trans (hI.vr X).symm) β0 hβ
      rw [this]
      simp [Gh.subN]
  · exact hr.le (Nat.mul_le_mul_right _ hlen)
  · obtain ⟨g1, g2, g3⟩ := hg 0 j hlen hj
    refine ⟨by simpa [Gh.subN] using g1, g2, ?_⟩
    cases ek : kp j with
    | true =>
      simp only [ek, cond_true, if_pos hj]
      exact .v
    | false =>
      have := g3.cln (G' := G.subN st.bl X) (κ := [X]) (κ' := [9999]) (f0 := b.f) (by simp) (fun β s h => ⟨hto h, rfl⟩) (fun s hs => by
        have : stripP [9999] (9999 :: s) = some s := stripP_iff.2 rfl
        simp only [List.singleton_append, Gh.subN, this]
        cases s with
        | nil => exact absurd rfl hs
        | cons x s => simp only [nilK, hb]) [0, j] (by simp) rfl rfl (hpre j hj ek)
      simp only [ek, cond_false]
      exact this
  · obtain ⟨x, hx1, hx2⟩ := ha i m hm
    exact ⟨a.eval x, by simp [hx1], hx2.r (hI.ev x)⟩
  · rintro e w' ⟨c, G', rfl, hbel, hown, hinj, k0, kb, hbox, hres⟩
    have B : Back w w' G G' X := ⟨hbel, hown, hinj⟩
    have hA := (hI.after B hc.own hβ k0 kb hbox).reval (X := X) (b := ⟨b.sz, 1, fun _ j => bif kp j then .v (if j < b.sz then g 0 j else .slice none 0 0) else post j⟩) (b' := ⟨b.sz, 1, fun _ j => bif kp j then b.f 0 j else post j⟩) (by simp [setBl]) ⟨rfl, rfl⟩ (fun i j hi hj => by
      cases ek : kp j with
      | false => exact .inl (by simp [ek])
      | true =>
        refine .inr ⟨if j < b.sz then g 0 j else .slice none 0 0, by simp only [ek, cond_true], ?_⟩
        simp only [ek, cond_true]
        obtain ⟨n, p, ver, z, o, l, e, hnX⟩ := hkp j hj ek
        have h3 := (hg 0 j hlen hj).2.2
        have h4 : R w G [] (b.f 0 j) (g 0 j) := by rw [e] at h3 ⊢; exact h3.refKey
        have h5 := h4.after B (fun s e => by cases e)
        rw [show (if j < b.sz then g 0 j else Value.slice none 0 0) = g 0 j from if_pos hj]
        show R _ _ _ (b.f 0 j) _
        rw [e] at h5 ⊢
        exact h5.refKey)
    have hset : ∀ {bl : Nat → Option Blk} {x y : Option Blk}, setBl (setBl bl X x) X y = setBl bl X y := fun {bl x y} => by
      funext n
      simp only [setBl]
      split <;> rfl
    simp only [hset] at hA
    exact hk _ _ _ (hA.put hd (hres.flat hc.flat))
end
end Go.Proofs.YtiimdlkeikcfiaaGreat.M
namespace Go.Proofs.YtiimdlkeikcfiaaGreat.V
open Go.RowKit M
/-- A contract that leaves a box's cell alone. -/
def VPK (P : Program) (f : FuncId) (jk : Nat) (pre : List CV) (us : List AV) (post : List CV) (res : VV) : Prop := (pre.length = post.length ∧ boxL post = true) ∧ FnOk P f ∧ ∀ base len cap, PC P f pre.length (canL (overL jk [.sc (.slice base len cap)] pre)) (us.map canA) (canL (overL jk [.sc (.slice base len cap)] post)) (canS res)
def ptrVK (P : Program) (s : VSt) (f : FuncId) (args : List Operand) (jk : Nat) (K : VV → VSt → List Nat → Prop) : Prop :=
  match args with
  | [] => False
  | x0 :: r => match evV s.tm x0 with
    | .av (.one (.ptr [X] 0 0)) => match look s.bl none X with
      | some (.box cs) => match nth cs jk with
        | some (.ref [m] t w) => sideP (!Nat.beq m X) (preL (overL jk [.sc (.slice none 0 0)] cs) (fun pre => scS s r (fun us => ∃ post res, VPK P f jk pre us post res ∧ sideP (flatV res) (K res ⟨killTmX X s.tm, (X, some (.box (overL jk [.ref [m] t w] post))) :: killBl (preB [X]) s.bl, s.nt⟩ [X]))))
        | _ => False
      | _ => False
    | _ => False
theorem ptrVK_ok {P : Program} {s : VSt} {st : St} (h : Sim s st) {o : Oper} {f : FuncId} {args : Array Operand} {tys : Array TypeId} {d : Nat} (ho : o.op = .call ⟨.value (.func f), args, tys⟩) (hd : o.dst = some d) (hok : dstOk st.nt o.dst = true) {jk : Nat} {K : VV → VSt → List Nat → Prop} (hk : ptrVK P s f args.toList jk K) : ∃ v s' names st', K v s' names ∧ Step P o st st' ∧ Sim (s'.put (some d) v) st' := by
  unfold ptrVK at hk
  split at hk
  · exact hk.elim
  rename_i x0 r hargs
  split at hk
  case h_2 => exact hk.elim
  rename_i X hx
  split at hk
  case h_2 => exact hk.elim
  rename_i cs hcs
  replace hcs : s.B X = some (.box cs) := hcs
  split at hk
  case h_2 => exact hk.elim
  rename_i m0 t0 w0 hcj
  obtain ⟨hmX, hk⟩ := hk.ok
  have hmX : m0 ≠ X := by rintro rfl; rw [beq_yes] at hmX; cases hmX
  have hjk := nth_lt hcj
  obtain ⟨b, hb, hrel⟩ := h.bl X _ hcs
  have hov : ∀ (l : List CV) (c : CV), jk < l.length → ∀ j, nth (overL jk [c] l) j = if j = jk then some c else nth l j := fun l c hl j => by
    rw [overL_nth jk _ _ (by simp; omega)]
    by_cases e : j = jk
    · subst e; simp [nth]
    · rw [if_neg (by simp; omega), if_neg e]
  obtain ⟨pre, hk, h1, h2⟩ := preL_at (f := fun j => if j = jk then .v (.slice none 0 0) else b.f 0 j) (fun j c hc => by
    rw [hov _ _ hjk] at hc
    by_cases e : j = jk
    · subst e
      rw [if_pos rfl] at hc
      injection hc with hc
      subst hc
      simp only [if_pos]
      exact (rfl : _ = _)
    · rw [if_neg e] at hc
      simp only [if_neg e]
      exact hrel.2.2 j c hc) hk
  rw [overL_len] at h1 h2
  obtain ⟨us, ⟨post, res, ⟨⟨hlen, hbx⟩, hfn, hc⟩, hk⟩, h3, h4⟩ := scS_at h hk
  have hPK : M.PK P f cs.length (canL pre) (canL post) (fun j => Nat.beq j jk) (us.map canA) (canS res) := ⟨hfn, fun vs hvs => by
    obtain ⟨base, len, cap, e⟩ := hvs jk (beq_yes jk)
    have key : ∀ l : List CV, l.length = cs.length → (fun j => bif Nat.beq j jk then MV.v (vs j) else canL l j) = canL (overL jk [.sc (.slice base len cap)] l) := fun l hl => by
      funext j
      unfold canL
      rw [hov _ _ (by omega)]
      by_cases e2 : j = jk
      · subst e2
        rw [beq_yes, if_pos rfl, cond_true, e]
        rfl
      · rw [beq_no e2, if_neg e2, cond_false]
    rw [key pre h1, key post (by omega)]
    have := hc base len cap
    rw [h1] at this
    exact this⟩
  obtain ⟨hfl, hk⟩ := hk.ok
  obtain ⟨f1, f2⟩ := flatV_ok hfl
  obtain ⟨n, p, z, e, hm, hp⟩ := h.ptr hx
  injection e with e1 e2
  subst e1 e2
  have hz : z = cs.length := by
    rcases hp with ⟨cs', _, hb', hz, _⟩ | ⟨t, o, l, ⟨n', p', b', e, hb', hn⟩, _⟩
    · rw [hcs] at hb'
      injection hb' with hb'
      injection hb' with hb'
      rw [hz, hb']
    · injection e with e1 e2
      subst e1 e2
      rw [hcs] at hb'
      injection hb' with hb'
      subst hb'
      exact hn.elim
  have ha0 : args[0]? = some x0 := by rw [← Array.getElem?_toList, hargs]; rfl
  have hj0 : RelX s.B st (.ref [m0] t0 w0) (b.f 0 jk) := hrel.2.2 jk _ hcj
  have hstep := step_ptrK (st := st) ho hok ha0 hm rfl hb ⟨by rw [hz]; exact hrel.1, by rw [hrel.2.1]; decide⟩ (by rw [hz]; exact hPK) (fun j hj hkj => by
    have e : j ≠ jk := by rintro rfl; simp only [beq_yes] at hkj; cases hkj
    have := h2 j (by rw [← hz]; exact hj)
    simpa only [if_neg e] using this) (fun j hj hkj => by
    obtain rfl : j = jk := Nat.eq_of_beq_eq_true hkj
    obtain ⟨n9, p9, o9, l9, e9, _, _, ⟨hv9, _⟩ | ⟨h9, _⟩⟩ := hj0
    · injection e9 with e1 e2
      subst e1 e2
      exact ⟨_, _, _, _, _, _, hv9, hmX⟩
    · injection e9 with _ e2
      exact absurd e2.symm h9) (by
    have : args.size = args.toList.length := by simp
    rw [this, hargs, List.length_map, h3]; rfl) (fun i m hm => by
    rw [List.getElem?_map] at hm
    obtain ⟨a, ha, rfl⟩ := Option.map_eq_some_iff.1 hm
    obtain ⟨x, hx1, hx2⟩ := h4 i a ha
    exact ⟨x, by rw [← Array.getElem?_toList, hargs]; exact hx1, hx2⟩)
  refine ⟨_, _, _, _, hk, hstep, ?_⟩
  rw [hd]
  -- the state behind it
  have hB : ∀ x, (⟨killTmX X s.tm, (X, some (.box (overL jk [.ref [m0] t0 w0] post))) :: killBl (preB [X]) s.bl, s.nt⟩ : VSt).B x = if x = X then some (.box (overL jk [.ref [m0] t0 w0] post)) else (s.B x).map (killB (preB [X])) := fun x => by
    show look _ _ _ = _
    rw [look_cons, look_killBl]
  generalize hs2 : (⟨killTmX X s.tm, (X, some (.box (overL jk [.ref [m0] t0 w0] post))) :: killBl (preB [X]) s.bl, s.nt⟩ : VSt) = s2 at hB hk
  generalize hE : (⟨fun t => reP X (st.vr X) (st.tm t), setBl st.bl X (some ⟨z, 1, fun _ j => bif Nat.beq j jk then b.f 0 j else canL post j⟩), putV st.vr X (st.vr X + 1), st.nt⟩ : St) = E
  have hEt : ∀ t, E.tm t = reP X (st.vr X) (st.tm t) := fun t => by rw [← hE]
  have hEb : ∀ x, x ≠ X → E.bl x = st.bl x ∧ E.vr x = st.vr x := fun x hx => by rw [← hE]; simp [setBl, putV, hx]
  have hEn : E.bl X = some ⟨z, 1, fun _ j => bif Nat.beq j jk then b.f 0 j else canL post j⟩ ∧ E.vr X = st.vr X + 1 := by rw [← hE]; simp [setBl, putV]
  have hEnt : E.nt = st.nt := by rw [← hE]
  have K0 : Keep s.B s2.B st E (preB [X]) (fun m => m) := keep_of (fun x p hk b' hb' => by
    rw [preB_one] at hk
    have e : x ≠ X := by rintro rfl; rw [beq_yes] at hk; cases hk
    rw [hB, if_neg e, hb']
    exact ⟨rfl, (hEb x e).2, (hEb x e).1⟩)
  refine Sim.put (st := E) ⟨by rw [hEnt, ← hs2]; exact h.nt, fun t => ?_, fun x b' hb' => ?_⟩ f2
  · have hT : s2.T t = killT1 X (s.T t) := by rw [← hs2]; exact look_killTmX X _ t
    rw [hT, hEt]
    have ht := h.tm t
    generalize s.T t = v at ht
    generalize st.tm t = m at ht
    unfold killT1
    cases hkp : keepPt X v with
    | true =>
      unfold keepPt at hkp
      split at hkp
      · rename_i x i j
        have e : x = X := Nat.eq_of_beq_eq_true hkp
        subst e
        obtain ⟨n', p', z', e, hm', hp'⟩ := ht
        injection e with e1 e2
        subst e1 e2
        subst hm'
        rw [reP_self]
        refine ⟨_, [], z', rfl, by rw [hEn.2], .inl ⟨_, rfl, by rw [hB, if_pos rfl], ?_, ?_⟩⟩
        all_goals
          rcases hp' with ⟨cs', _, hb', hz', hi'⟩ | ⟨t, o, l, ⟨n', p', b', e, hb', hn⟩, _⟩
        · rw [hcs] at hb'
          injection hb' with hb'
          injection hb' with hb'
          rw [overL_len, hz', ← hlen, h1, hb']
        · injection e with e1 e2
          subst e1 e2
          rw [hcs] at hb'
          injection hb' with hb'
          subst hb'
          exact hn.elim
        · exact hi'
        · injection e with e1 e2
          subst e1 e2
          rw [hcs] at hb'
          injection hb' with hb'
          subst hb'
          exact hn.elim
      · cases hkp
    | false =>
      have h5 := K0.s ht
      simp only at h5 ⊢
      by_cases e : reP X (st.vr X) m = m
      · rw [e]; exact h5
      · -- a pointer to the box: nothing is known of it
        obtain ⟨V, z', i, j, rfl⟩ : ∃ V z' i j, m = .ptr [X] V z' i j := by
          unfold reP at e
          split at e
          · rename_i x ver z' i j
            split at e
            · rename_i h6 h7
              have := Nat.eq_of_beq_eq_true h6
              subst this
              exact ⟨_, _, _, _, rfl⟩
            · exact absurd rfl e
          · exact absurd rfl e
        cases v with
        | tup l => obtain ⟨f, e2, _⟩ := ht; cases e2
        | av a =>
          cases a with
          | agg l => obtain ⟨f, e2, _⟩ := ht; cases e2
          | one c =>
            cases c with
            | any => exact trivial
            | sc c => exact absurd (show MV.ptr [X] V z' i j = .v c from ht) (by simp)
            | ro t l => rcases ht with ⟨_, _, _, e2, _⟩ | ⟨_, e2⟩ <;> cases e2
            | own t o l ov => exact (show False from ht).elim
            | ref k t w => obtain ⟨_, _, _, _, _, _, _, ⟨e2, _⟩ | ⟨_, _, e2⟩⟩ := ht <;> cases e2
            | ptr k i' j' =>
              obtain ⟨n', p', z2, rfl, e2, _⟩ := ht
              injection e2 with e3 e4 e5 e6 e7
              injection e3 with e8 e9
              subst e8 e9
              simp [keepPt, beq_yes] at hkp
            | rptr t l i' j' => obtain ⟨_, _, _, _, e2, _⟩ := ht; cases e2
  · rw [hB] at hb'
    by_cases e : x = X
    · subst e
      rw [if_pos rfl] at hb'
      injection hb' with hb'
      subst hb'
      refine ⟨_, hEn.1, by rw [overL_len, ← hlen, h1]; exact hz, rfl, fun j c hc' => ?_⟩
      rw [hov _ _ (by omega)] at hc'
      by_cases ej : j = jk
      · subst ej
        rw [if_pos rfl] at hc'
        injection hc' with hc'
        subst hc'
        show RelX s2.B E _ (bif Nat.beq j j then b.f 0 j else canL post j)
        rw [beq_yes, cond_true]
        have hb0 := K0.b hrel
        refine hb0.2.2 j _ ?_
        show nth (mapL (killC (preB [x])) cs) j = _
        rw [nth_mapL, hcj]
        simp only [Option.map_some, killC, preB_one, beq_no (fun e => hmX e.symm)]
      · rw [if_neg ej] at hc'
        show RelX s2.B E c (bif Nat.beq j jk then b.f 0 j else canL post j)
        rw [beq_no ej, cond_false]
        have e1 : canL post j = canC c := by unfold canL; rw [hc']
        rw [e1]
        exact boxC_x (boxL_at hbx j c hc')
    · rw [if_neg e] at hb'
      obtain ⟨b1, h5, rfl⟩ := Option.map_eq_some_iff.1 hb'
      obtain ⟨b2, h6, h7⟩ := h.bl x b1 h5
      exact ⟨b2, by rw [(hEb x e).1]; exact h6, K0.b h7⟩
end Go.Proofs.YtiimdlkeikcfiaaGreat.V

namespace Go.Proofs.YtiimdlkeikcfiaaGreat.M
open Go.RowKit
section
variable {P : Program} {T : TyT} {ops : Array Oper}
def Runs3 (P : Program) (ops : Array Oper) (ks : Nat) : List It → St → St → Prop
  | [], s, s' => s = s'
  | x :: L, s, s' => match Nat.beq x.i ks with
    | true => ops[x.i]? = some x.o ∧ ∃ s1, StepG P ops x.i s s1 ∧ Runs3 P ops ks L s1 s'
    | false => LG P ops x s ∧ Runs3 P ops ks L (s.app x.o.dst x.e) s'
theorem LG.self {x : It} {s : St} (h : LG P ops x s) : StepG P ops x.i s (s.app x.o.dst x.e) := h.2.2 s ⟨fun _ _ => rfl, fun _ _ => ⟨rfl, rfl⟩, rfl⟩
theorem Runs3.cases {ks : Nat} {x : It} {L : List It} {s s' : St} (h : Runs3 P ops ks (x :: L) s s') : ops[x.i]? = some x.o ∧ ∃ s1, StepG P ops x.i s s1 ∧ Runs3 P ops ks L s1 s' := by
  unfold Runs3 at h
  split at h
  · exact h
  · exact ⟨h.1.1, _, h.1.self, h.2⟩
theorem Runs3.lg {ks : Nat} {x : It} {L : List It} {s s' : St} (hx : x.i ≠ ks) (h : Runs3 P ops ks (x :: L) s s') : LG P ops x s ∧ Runs3 P ops ks L (s.app x.o.dst x.e) s' := by
  unfold Runs3 at h
  rw [beq_no hx] at h
  exact h
theorem Runs3.mk {ks : Nat} {x : It} {L : List It} {s s' : St} (hx : x.i ≠ ks) (h : LG P ops x s ∧ Runs3 P ops ks L (s.app x.o.dst x.e) s') : Runs3 P ops ks (x :: L) s s' := by
  unfold Runs3
  rw [beq_no hx]
  exact h
theorem runs_swap3 {ks : Nat} {x y : It} {L : List It} {s s' : St} (hx : x.i ≠ ks) (hy : y.i ≠ ks) (h : Indep ops x y) (hr : Runs3 P ops ks (x :: y :: L) s s') : Runs3 P ops ks (y :: x :: L) s s' := by
  obtain ⟨h1, hr⟩ := hr.lg hx
  obtain ⟨h2, h3⟩ := hr.lg hy
  refine .mk hy ⟨h2.alike (alike_symm (alike_app h.w1 (fun d hd => (h.d1 d hd).1))), .mk hx ⟨h1.alike (alike_app h.w2 h.d2), ?_⟩⟩
  rw [← app_comm h h1.2.1 h2.2.1]
  exact h3
theorem runs_front3 {ks : Nat} {x : It} : ∀ (A : List It) {B : List It} {s s' : St}, (∀ y ∈ A, y.i ≠ ks ∧ x.i ≠ ks ∧ Indep ops y x) → Runs3 P ops ks (A ++ x :: B) s s' → ∃ s1, StepG P ops x.i s s1 ∧ Runs3 P ops ks (A ++ B) s1 s' := by
  have key : ∀ (A : List It) {B : List It} {s s' : St}, (∀ y ∈ A, y.i ≠ ks ∧ x.i ≠ ks ∧ Indep ops y x) → Runs3 P ops ks (A ++ x :: B) s s' → Runs3 P ops ks (x :: (A ++ B)) s s' := by
    intro A
    induction A with
    | nil => intro B s s' _ h; exact h
    | cons y A ih =>
      intro B s s' hi hr
      obtain ⟨k1, k2, k3⟩ := hi y (by simp)
      obtain ⟨h1, h2⟩ := Runs3.lg k1 hr
      exact runs_swap3 k1 k2 k3 (.mk k1 ⟨h1, ih (fun z hz => hi z (by simp [hz])) h2⟩)
  intro A B s s' hi hr
  exact (Runs3.cases (key A hi hr)).2
theorem Runs.to3 {ks : Nat} : ∀ {L : List It} {s s' : St}, Runs P ops L s s' → (∀ x ∈ L, x.i ≠ ks) → Runs3 P ops ks L s s'
  | [], s, s', h, _ => h
  | x :: L, s, s', h, hx => .mk (hx x (by simp)) ⟨h.1, Runs.to3 h.2 (fun y hy => hx y (by simp [hy]))⟩
structure Chk3 (ops : Array Oper) (ks : Nat) (L : List It) : Prop where
  pw : L.Pairwise fun x y => x.i < y.i ∧ (depTB ops 8 y.o x.i = true ∨ (x.i ≠ ks ∧ y.i ≠ ks ∧ Indep ops x y))
  lt : ∀ x ∈ L, ∀ e ∈ x.o.after, Region.binds .any e = true → e.on < x.i
theorem Chk3.sub {ks : Nat} {L L' : List It} (h : Chk3 ops ks L) (hs : L'.Sublist L) : Chk3 ops ks L' := ⟨h.pw.sublist hs, fun x hx => h.lt x (hs.subset hx)⟩
theorem runs_any3 {ks : Nat} {Q : Exit → Act → World → Prop} {w0 : World} {O : Own} {s' : St} (hK : ∀ a w G, Inv w0 O s' a w G → Q .normal a w) : ∀ (fuel : Nat) (listed : Array Bool) (L : List It) (s : St) (a : Act) (w : World) (G : Gh), listed.size = ops.size →
    (∀ i, i < ops.size → (listed.getD i true = false ↔ ∃ x ∈ L, x.i = i)) → L.length ≤ fuel → DC ops L → Chk3 ops ks L → Runs3 P ops ks L s s' → Inv w0 O s a w G → wpAny P .any ops Q fuel listed a w := by
  -- an operation that may come next
  have ready : ∀ {listed : Array Bool} {i : Nat}, i ∈ Region.ready .any ops listed → i < ops.size ∧ listed.getD i true = false ∧ ∀ o, ops[i]? = some o → ∀ e ∈ o.after, Region.binds .any e = true → listed.getD e.on false = true := by
    intro listed i hi
    simp only [Region.ready, List.mem_filter, List.mem_range, Bool.and_eq_true, Bool.not_eq_true'] at hi
    refine ⟨hi.1, hi.2.1, fun o ho e he hb => ?_⟩
    have := hi.2.2
    rw [ho] at this
    simp only [Option.map_some, Option.getD_some] at this
    have := (Array.all_eq_true_iff_forall_mem.1 this) e he
    rw [hb] at this
    simpa using this
  have mem_lt : ∀ {L : List It} {s s' : St}, Runs3 P ops ks L s s' → ∀ x ∈ L, ops[x.i]? = some x.o := by
    intro L
    induction L with
    | nil => intro s s' _ x hx; cases hx
    | cons y L ih =>
      intro s s' h x hx
      rcases Runs3.cases h with ⟨h1, s1, _, h2⟩
      rcases List.mem_cons.1 hx with rfl | hx
      · exact h1
      · exact ih h2 x hx
  have nonempty : ∀ {listed : Array Bool} {L : List It} {s : St}, listed.size = ops.size → (∀ i, i < ops.size → (listed.getD i true = false ↔ ∃ x ∈ L, x.i = i)) → Chk3 ops ks L → Runs3 P ops ks L s s' → Region.ready .any ops listed = [] → L = [] := by
    intro listed L s hsz hl hc hr hn
    cases L with
    | nil => rfl
    | cons x L =>
      exfalso
      have hx := (Runs3.cases hr).1
      have hlt : x.i < ops.size := by
        have := (Array.getElem?_eq_some_iff.1 hx).1
        exact this
      have : x.i ∈ Region.ready .any ops listed := by
        simp only [Region.ready, List.mem_filter, List.mem_range, Bool.and_eq_true, Bool.not_eq_true']
        refine ⟨hlt, (hl x.i hlt).2 ⟨x, by simp, rfl⟩, ?_⟩
        rw [hx]
        simp only [Option.map_some, Option.getD_some]
        refine Array.all_eq_true_iff_forall_mem.2 fun e he => ?_
        cases hb : Region.binds .any e with
        | false => rfl
        | true =>
          have hon := hc.lt x (by simp) e he hb
          have hon2 : e.on < ops.size := by omega
          have : listed.getD e.on true = true := by
            cases h : listed.getD e.on true with
            | true => rfl
            | false =>
              obtain ⟨y, hy, hyi⟩ := (hl e.on hon2).1 h
              rcases List.mem_cons.1 hy with rfl | hy
              · omega
              · have := (List.pairwise_cons.1 hc.pw).1 y hy
                omega
          have h2 : listed.getD e.on false = true := by
            have hlt' : e.on < listed.size := by omega
            simp [Array.getD_eq_getD_getElem?, hlt'] at this ⊢
            exact this
          simp [h2]
      rw [hn] at this
      cases this
  intro fuel
  induction fuel with
  | zero =>
    intro listed L s a w G hsz hl hlen hdc hc hr hI
    obtain rfl : L = [] := List.eq_nil_of_length_eq_zero (by omega)
    refine ⟨?_, hK a w G (hr ▸ hI)⟩
    refine List.eq_nil_iff_forall_not_mem.2 fun i hi => ?_
    obtain ⟨h1, h2, _⟩ := ready hi
    obtain ⟨x, hx, _⟩ := (hl i h1).1 h2
    cases hx
  | succ fuel ih =>
    intro listed L s a w G hsz hl hlen hdc hc hr hI
    refine ⟨fun hn => ?_, fun i hi => ?_⟩
    · obtain rfl := nonempty hsz hl hc hr hn
      exact hK a w G (hr ▸ hI)
    · obtain ⟨h1, h2, h3⟩ := ready hi
      obtain ⟨x, hx, rfl⟩ := (hl i h1).1 h2
      obtain ⟨A, B, rfl⟩ := List.append_of_mem hx
      have hxo := mem_lt hr x hx
      have hind : ∀ y ∈ A, y.i ≠ ks ∧ x.i ≠ ks ∧ Indep ops y x := fun y hy => by
        obtain ⟨_, hp⟩ := (List.pairwise_append.1 hc.pw).2.2 y hy x (by simp)
        rcases hp with hp | hp
        · exfalso
          obtain ⟨e, he, hb, z, hz, hzi⟩ := hdc.trans (y := y) (by simp [hy]) 8 x.i x.o hxo hp
          have h4 := h3 x.o hxo e he hb
          have hzo := mem_lt hr z hz
          have hzlt : z.i < ops.size := (Array.getElem?_eq_some_iff.1 hzo).1
          have h6 := (hl z.i hzlt).2 ⟨z, hz, rfl⟩
          rw [← hzi] at h4
          have hlt' : z.i < listed.size := by omega
          simp [Array.getD_eq_getD_getElem?, hlt'] at h4 h6
          rw [h4] at h6
          cases h6
        · exact hp
      obtain ⟨s1, g1, g2⟩ := runs_front3 A hind hr
      refine g1 w0 O a w G _ Q hI (fun a' w' G' hI' => ?_)
      have hsub : (A ++ B).Sublist (A ++ x :: B) := List.Sublist.append (List.Sublist.refl A) (List.sublist_cons_self x B)
      refine ih (listed.setIfInBounds x.i true) (A ++ B) _ a' w' G' (by simpa using hsz) (fun j hj => ?_) (by simp at hlen ⊢; omega) (fun y hy k o ho e he hb hei => ?_) (hc.sub hsub) g2 hI'
      rotate_left
      · obtain ⟨z, hz, hzk⟩ := hdc y (hsub.subset hy) k o ho e he hb hei
        refine ⟨z, ?_, hzk⟩
        rcases List.mem_append.1 hz with hz | hz
        · exact List.mem_append_left _ hz
        · rcases List.mem_cons.1 hz with rfl | hz
          · exfalso
            rw [← hzk] at ho
            have h4 := h3 o ho e he hb
            have hyo := mem_lt hr y (hsub.subset hy)
            have hylt : y.i < ops.size := (Array.getElem?_eq_some_iff.1 hyo).1
            have h6 := (hl y.i hylt).2 ⟨y, hsub.subset hy, rfl⟩
            rw [hei] at h4
            have hlt' : y.i < listed.size := by omega
            simp [Array.getD_eq_getD_getElem?, hlt'] at h4 h6
            rw [h4] at h6
            cases h6
          · exact List.mem_append_right _ hz
      
      have hone : ∀ y ∈ A ++ B, y.i ≠ x.i := fun y hy e => by
        rcases List.mem_append.1 hy with hy | hy
        · have := ((List.pairwise_append.1 hc.pw).2.2 y hy x (by simp)).1
          omega
        · have := (List.pairwise_cons.1 (List.pairwise_append.1 hc.pw).2.1).1 y hy
          omega
      by_cases e : j = x.i
      · subst e
        have hlt' : x.i < listed.size := by omega
        constructor
        · intro h
          simp [Array.getD_eq_getD_getElem?, hlt'] at h
        · rintro ⟨y, hy, e⟩
          exact absurd e (hone y hy)
      · have hset : (listed.setIfInBounds x.i true).getD j true = listed.getD j true := by
          simp [Array.getD_eq_getD_getElem?, Array.getElem?_setIfInBounds_ne (Ne.symm e)]
        rw [hset, hl j hj]
        constructor
        · rintro ⟨y, hy, rfl⟩
          refine ⟨y, ?_, rfl⟩
          rcases List.mem_append.1 hy with hy | hy
          · exact List.mem_append_left _ hy
          · rcases List.mem_cons.1 hy with rfl | hy
            · exact absurd rfl e
            · exact List.mem_append_right _ hy
        · rintro ⟨y, hy, rfl⟩
          exact ⟨y, hsub.subset hy, rfl⟩

end
end Go.Proofs.YtiimdlkeikcfiaaGreat.M
namespace Go.Proofs.YtiimdlkeikcfiaaGreat.V
open Go.RowKit M
section
variable {P : Program} {T : TyT} {VT : VTab} {ops : Array Oper}
def checkV3 (ops : Array Oper) (ks : Nat) : List Sk → Bool
  | [] => true
  | x :: L => (L.all fun y => Nat.blt x.i y.i && (depB y.o x.i || ((!Nat.beq x.i ks && (!Nat.beq y.i ks && indepV ops x y)) || depTB ops 8 y.o x.i))) && (x.o.after.toList.all fun e => !Region.binds .any e || Nat.blt e.on x.i) && checkV3 ops ks L
theorem depT_of8 {o : Oper} {i : Nat} (h : depB o i = true) : depTB ops 8 o i = true := by
  unfold depB at h
  rw [List.any_eq_true] at h
  obtain ⟨e, he, hb⟩ := h
  rw [Bool.and_eq_true] at hb
  simp only [depTB, List.any_eq_true, Bool.and_eq_true, Bool.or_eq_true]
  exact ⟨e, he, hb.1, .inl hb.2⟩
theorem beq_not {a b : Nat} (h : (!Nat.beq a b) = true) : a ≠ b := by rintro rfl; rw [beq_yes] at h; cases h
theorem chk3_v {ks : Nat} : ∀ {L : List Sk} {L' : List It}, SkL L L' → checkV3 ops ks L = true → Chk3 ops ks L'
  | [], _, .nil, _ => ⟨List.Pairwise.nil, by simp⟩
  | x :: L, _, .cons (y := x') (b := L') hx hL, h => by
    simp only [checkV3, Bool.and_eq_true, List.all_eq_true] at h
    obtain ⟨⟨h1, h2⟩, h3⟩ := h
    obtain ⟨k1, k2⟩ := chk3_v hL h3
    refine ⟨List.Pairwise.cons (fun y' hy' => ?_) k1, fun y' hy' => ?_⟩
    · obtain ⟨y, hy, hyy⟩ : ∃ y ∈ L, SkOf y y' := by
        clear h1 h2 h3 k1 k2
        induction hL with
        | nil => cases hy'
        | cons ha hr ih =>
          rcases List.mem_cons.1 hy' with rfl | hy'
          · exact ⟨_, List.mem_cons_self, ha⟩
          · obtain ⟨y, h1, h2⟩ := ih hy'
            exact ⟨y, List.mem_cons_of_mem _ h1, h2⟩
      have := h1 y hy
      rw [hx.i, hyy.i, hyy.o]
      rw [Bool.or_eq_true, Bool.or_eq_true] at this
      refine ⟨blt_iff.1 this.1, ?_⟩
      rcases this.2 with h | h | h
      · exact .inl (depT_of8 h)
      · rw [Bool.and_eq_true, Bool.and_eq_true] at h
        exact .inr ⟨beq_not h.1, beq_not h.2.1, indep_of (indep_v hx hyy h.2.2)⟩
      · exact .inl h
    · rcases List.mem_cons.1 hy' with rfl | hy'
      · intro e he hb
        rw [hx.o] at he
        have := h2 e (by simpa using he)
        rw [hb] at this
        rw [hx.i]
        exact blt_iff.1 (by simpa using this)
      · exact k2 y' hy'
/-- The operations of a region, of which one is a call through a pointer that leaves a cell alone. -/
def runK (P : Program) (T : TyT) (VT : VTab) (ops : Array Oper) (jk k i : Nat) (l : List Oper) (s : VSt) (acc : List Sk) (K : VSt → List Sk → Prop) : Prop :=
  match l with
  | [] => False
  | o :: r => match k with
    | 0 => match o.guard with
      | none => match o.op with
        | .call ⟨.value (.func f), args, _⟩ => match o.dst with
          | some d => sideP (dstF s.nt (some d)) (ptrVK P s f args.toList jk (fun v s' names => normV s' fun s' => frcS v fun v => putF s' (some d) v (fun s' => runDV P T VT ops (i + 1) r s' (⟨i, o, names, []⟩ :: acc) K)))
          | none => False
        | _ => False
      | some _ => False
    | k + 1 => stepV P T VT ops o s (fun v s' wr ft => normW wr s' fun s' => frcS v fun v => putF s' o.dst v (fun s' => runK P T VT ops jk k (i + 1) r s' (⟨i, o, wr, ft⟩ :: acc) K))
theorem runK_runs (hT : TOk P T) (hV : VTOk T VT) {jk : Nat} : ∀ (l : List Oper) (k i : Nat) {s : VSt} {st : St} {acc : List Sk} {K : VSt → List Sk → Prop}, (∀ j, l[j]? = ops[i + j]?) → Sim s st → runK P T VT ops jk k i l s acc K →
    ∃ sk L s' st', K s' (sk.reverse ++ acc) ∧ Sim s' st' ∧ SkL sk L ∧ Runs3 P ops (i + k) L st st' ∧ L.map (·.i) = List.range' i l.length
  | [], k, i, s, st, acc, K, _, h, hk => by cases k <;> simp [runK] at hk
  | o :: r, 0, i, s, st, acc, K, hl, h, hk => by
    have ho : ops[i]? = some o := by
      have := hl 0
      simpa using this.symm
    simp only [runK] at hk
    split at hk
    case h_2 => exact hk.elim
    rename_i hg
    split at hk
    case h_2 => exact hk.elim
    rename_i f args tys hop
    split at hk
    case h_2 => exact hk.elim
    rename_i d hd
    obtain ⟨hok, hk⟩ := hk.ok
    rw [dstF_eq] at hok
    obtain ⟨v, s1, names, st1, hk, hstep, h1⟩ := ptrVK_ok h hop hd (by rw [hd, h.nt]; exact hok) hk
    rw [normV_eq, frcS_eq, putF_eq] at hk
    obtain ⟨sk, L, s', st', k1, k2, k3, k4, k5⟩ := runDV_runs hT hV r (i + 1) (fun j => by
      have := hl (j + 1)
      rw [List.getElem?_cons_succ] at this
      rw [this]; congr 1; omega) h1 hk
    have hne : ∀ x ∈ L, x.i ≠ i := fun x hx => by
      have : x.i ∈ L.map (·.i) := List.mem_map.2 ⟨x, hx, rfl⟩
      rw [k5] at this
      obtain ⟨q, hq, e⟩ := List.mem_range'.1 this
      omega
    refine ⟨⟨i, o, names, []⟩ :: sk, ⟨i, o, ⟨.any, [], []⟩⟩ :: L, s', st', by simpa using k1, k2, .cons ⟨rfl, rfl, by simp, by simp⟩ k3, ?_, by simp [k5, List.range'_succ]⟩
    unfold Runs3
    rw [show Nat.beq (It.i ⟨i, o, ⟨.any, [], []⟩⟩) (i + 0) = true from beq_yes i]
    exact ⟨ho, st1, wpOp_of_step ho (fun _ _ _ _ _ _ => by simp [Region.wanted, hg]) hstep, k4.to3 hne⟩
  | o :: r, k + 1, i, s, st, acc, K, hl, h, hk => by
    have ho : ops[i]? = some o := by
      have := hl 0
      simpa using this.symm
    simp only [runK] at hk
    obtain ⟨e, ⟨v, s1, wr, ft, hk, hwr, hft, h1, h2⟩, h3⟩ := opG_loc hT ho (stepV_ok hV h hk)
    rw [normW_eq, frcS_eq, putF_eq] at hk
    obtain ⟨sk, L, s', st', k1, k2, k3, k4, k5⟩ := runK_runs hT hV r k (i + 1) (fun j => by
      have := hl (j + 1)
      rw [List.getElem?_cons_succ] at this
      rw [this]; congr 1; omega) (h1.put h2) hk
    refine ⟨⟨i, o, wr, ft⟩ :: sk, ⟨i, o, e⟩ :: L, s', st', by simpa using k1, k2, .cons ⟨rfl, rfl, hwr, hft⟩ k3, .mk (show i ≠ i + (k + 1) by omega) ⟨h3, ?_⟩, by simp [k5, List.range'_succ]⟩
    rw [show i + (k + 1) = i + 1 + k by omega]
    exact k4
/-- A region that draws, with a call (number k) through a pointer to a box whose cell jk is left alone. -/
theorem VW.callD (hT : TOk P T) (hV : VTOk T VT) (hm : P.follows .mixedOrders = true) (jk k : Nat) (ns : List Nat) {id : Nat} {s : VSt} {Q : Exit → VSt → Prop} (h : runK P T VT ops jk k 0 ops.toList s [] (fun s' acc => sideP (checkV3 ops k acc.reverse) (settle s' ns (fun s' => normV s' fun s' => Q .normal s')))) : VW P (.region id ops true) s Q := by
  refine ⟨fun st hs => gs_end ⟨fun w0 O a w G QQ hI hQ => ?_⟩⟩
  obtain ⟨sk, L, s', st', h1, h2, h3, h4, h5⟩ := runK_runs hT hV ops.toList k 0 (fun j => by simp) hs h
  rw [List.append_nil] at h1
  obtain ⟨hchk, h1⟩ := h1.ok
  rw [List.reverse_reverse] at hchk
  rw [Nat.zero_add] at h4
  obtain ⟨s2, st2, h6, g, h7⟩ := settle_at h2 h1
  rw [normV_eq] at h6
  have hlen : L.length = ops.size := by rw [← List.length_map (f := It.i), h5]; simp
  have hall : ∀ i, i < ops.size → ∃ x ∈ L, x.i = i := fun i hi => by
    have : i ∈ L.map (·.i) := by rw [h5]; simp [List.mem_range']; omega
    exact List.mem_map.1 this
  refine wp_region_any hm (runs_any3 (w0 := w0) (O := O) (s' := st') (fun a' w' G' hI' => hQ _ _ _ _ _ ⟨st2, g, s2, h7, h6⟩ hI') ops.size _ L st a _ G (by simp) (fun i hi => ?_) (by omega) (fun y _ k o ho _ _ _ _ => hall k (Array.getElem?_eq_some_iff.1 ho).1) (chk3_v h3 hchk) h4 (hI.drawn _))
  simp only [Array.getD_eq_getD_getElem?]
  obtain ⟨x, hx, hxi⟩ := hall i hi
  simp [hi]
  exact ⟨x, hx, hxi⟩
end
end Go.Proofs.YtiimdlkeikcfiaaGreat.V

namespace Go.Proofs.YtiimdlkeikcfiaaGreat.V
open Go.RowKit M
set_option maxRecDepth 100000
set_option maxHeartbeats 1000000
/-! ### pay, seen by one who holds the arena; renew -/
abbrev callS (p : Part) (base : Option Addr) (len cap : Nat) (me now th : Int) : List CV := [.own .i64 true p.label [], .own .i64 true p.own [], .own .res true p.tree [], .sc (.slice base len cap), iV p.heap.gc.phase, iV p.heap.gc.at_, iV p.heap.gc.round, .own .i64 true p.heap.gc.grey [], .own .tap true p.taps [], iV p.next, iV p.want, iV p.spent.pages, iV p.spent.rent, iV p.spent.cpu, iV p.press, iV p.lost, iV me, iV now, iV th]
theorem pay_w (p : Part) (base : Option Addr) (len cap : Nat) (me now th f : Int) (a : Amt) (hb : p.tree.length ≤ 1000000000) : VP Tryz.prog 134 (callS p base len cap me now th) [iA f, amtA a] (callS (payC p f a).1 base len cap me now th) (.av (.one (bV (payC p f a).2))) := by
  by_cases hq : ((payT p.tree f a).2 && (addA p.spent ⟨0, a.rent, 0⟩).2) = true
  · have e0 : payC p f a = ({ p with tree := (payT p.tree f a).1, spent := (addA p.spent ⟨0, a.rent, 0⟩).1 }, true) := if_pos hq
    rw [e0]
    refine VP.go tiOk vtOk [] Tryz.func134 rfl rfl rfl rfl rfl rfl ?_
    conv => whnf
    repeat' (first | (refine ⟨_, TreePay_v p.tree f a hb, ?_⟩; conv => whnf) | (refine ⟨_, AmtAdd_v p.spent ⟨0, a.rent, 0⟩, ?_⟩; conv => whnf) | (refine side_le (by (simp [lenW, winL]; omega)) ?_; conv => whnf) | (refine br (fun h => ?_) (fun h => ?_) <;> conv => whnf))
    all_goals first
      | (exfalso; clear e0; simp_all; done)
      | skip
    conv => whnf
    repeat (first | (refine ⟨by with_reducible rfl, ?_⟩; conv => whnf) | (refine ⟨rfl, ?_⟩; conv => whnf))
    exact True.intro
  · have e0 : payC p f a = (p, false) := if_neg hq
    rw [e0]
    refine VP.go tiOk vtOk [] Tryz.func134 rfl rfl rfl rfl rfl rfl ?_
    conv => whnf
    repeat' (first | (refine ⟨_, TreePay_v p.tree f a hb, ?_⟩; conv => whnf) | (refine ⟨_, AmtAdd_v p.spent ⟨0, a.rent, 0⟩, ?_⟩; conv => whnf) | (refine side_le (by (simp [lenW, winL]; omega)) ?_; conv => whnf) | (refine br (fun h => ?_) (fun h => ?_) <;> conv => whnf))
    all_goals first
      | (exfalso; clear e0; simp_all; done)
      | skip
    all_goals
      conv => whnf
      repeat (first | (refine ⟨by with_reducible rfl, ?_⟩; conv => whnf) | (refine ⟨rfl, ?_⟩; conv => whnf))
      exact True.intro
theorem pay_k (p : Part) (me now th f : Int) (a : Amt) (hb : p.tree.length ≤ 1000000000) : VPK Tryz.prog 134 3 (callS p none 0 0 me now th) [iA f, amtA a] (callC (payC p f a).1 me now th) (.av (.one (bV (payC p f a).2))) :=
  ⟨⟨rfl, rfl⟩, (pay_w p none 0 0 me now th f a hb).2.fn, fun base len cap => (pay_w p base len cap me now th f a hb).2⟩
def renewH (h : Heap) (a d : Int) : Heap := { h with arena := h.arena.set a.toNat (Obj.w4 ((h.arena.getD a.toNat (d0 .obj)).til + d) (h.arena.getD a.toNat (d0 .obj))) }
def renewBad (o : Obj) (a d : Int) : Bool := a == 0 || (!inB d 1 1000 || decide (1000000 < o.til + d))
def renewP (p : Part) (a d : Int) : Part × Int :=
  if (payC p (resOf p (p.heap.arena.getD a.toNat (d0 .obj)).res) ⟨0, (p.heap.arena.getD a.toNat (d0 .obj)).pages * d, 0⟩).2 then (setHeap (payC p (resOf p (p.heap.arena.getD a.toNat (d0 .obj)).res) ⟨0, (p.heap.arena.getD a.toNat (d0 .obj)).pages * d, 0⟩).1 (renewH p.heap a d), 0) else (p, 6)
def renewC (p : Part) (me now : Int) (c : Call) : Part × Int :=
  if (slotC p me now c.a 0).2 != 0 then (p, (slotC p me now c.a 0).2) else if renewBad (p.heap.arena.getD (slotC p me now c.a 0).1.toNat (d0 .obj)) (slotC p me now c.a 0).1 c.b then (p, 2)
  else renewP p (slotC p me now c.a 0).1 c.b
theorem slotC_nums {p : Part} {me now h kind : Int} (hc : (slotC p me now h kind).2 = 0) : inB (p.heap.arena.getD (slotC p me now h kind).1.toNat (d0 .obj)).til 0 1000000 = true ∧ inB (p.heap.arena.getD (slotC p me now h kind).1.toNat (d0 .obj)).pages 0 8 = true := by
  have h0 := slotC_in hc
  have h1 : (p.heap.arena.getD (slotC p me now h kind).1.toNat (d0 .obj)).kind ≠ 0 := by
    unfold slotC at hc ⊢
    split at hc
    · cases hc
    split at hc
    · cases hc
    split at hc
    · cases hc
    split at hc
    · cases hc
    rename_i h1 h2 h3 h4
    rw [if_neg h1, if_neg h2, if_neg h3, if_neg h4]
    exact goodSlot_kind (by simpa using h3)
  have hl := arenaOk_len h0.1
  have h2 := h0.1
  simp only [arenaOk, Bool.and_eq_true] at h2
  have h3 := List.all_eq_true.1 h2.2 _ (List.mem_range.2 (show (slotC p me now h kind).1.toNat < 10 by omega))
  unfold slotOk slotO at h3
  simp only [Bool.and_eq_true] at h3
  have h4 := h3.1.1
  simp only [objOk, h1, if_false, Bool.and_eq_true] at h4
  exact ⟨h4.2.1.1.1.2, h4.2.1.1.2⟩
theorem VW.layG {P : Program} {c : Code} (names : List Nat) {s : VSt} {Q : Exit → VSt → Prop} (h : settle s names (fun s' => normV s' fun s' => VW P c s' Q)) : VW P c s Q :=
  VW.gs fun st hs => by
    obtain ⟨s', st', h1, h2, h3⟩ := settle_at hs h
    rw [normV_eq] at h1
    exact ⟨s', st', h1, h2, h3⟩
theorem payC_heap {p : Part} {f : Int} {a : Amt} : (payC p f a).1.heap = p.heap ∧ ((payC p f a).2 = false → (payC p f a).1 = p) := by
  unfold payC
  split
  · exact ⟨rfl, fun h => by cases h⟩
  · exact ⟨rfl, fun _ => rfl⟩
theorem renew_v (p : Part) (me now th : Int) (c : Call) (hh : heapB p.heap) (ht : p.tree.length ≤ 1000000000) : VP Tryz.prog 123 (callC p me now th) [callA c] (callC (renewC p me now c).1 me now th) (iR (renewC p me now c).2) := by
  refine VP.go tiOk vtOk [1,4,5,6,7,8,9,10] Tryz.func123 rfl rfl rfl rfl rfl rfl ?_
  conv => whnf
  refine VW.call tiOk vtOk true 3 ?_
  conv => whnf
  refine ⟨_, _, slot_v p me now th c.a 0 hh.2, ?_⟩
  conv => whnf
  refine br (fun h2 => ?_) (fun h2 => ?_)
  · have e : renewC p me now c = (p, (slotC p me now c.a 0).2) := by
      unfold renewC
      rw [if_pos (by simpa using h2)]
    rw [e]
    conv => whnf
    repeat (first | (refine ⟨by with_reducible rfl, ?_⟩; conv => whnf) | (refine ⟨rfl, ?_⟩; conv => whnf))
    exact True.intro
  have hs := slotC_in (p := p) (me := me) (now := now) (h := c.a) (kind := 0) (by simpa using h2)
  have hn := slotC_nums (p := p) (me := me) (now := now) (h := c.a) (kind := 0) (by simpa using h2)
  have e : renewC p me now c = if renewBad (p.heap.arena.getD (slotC p me now c.a 0).1.toNat (d0 .obj)) (slotC p me now c.a 0).1 c.b then (p, 2)
    else renewP p (slotC p me now c.a 0).1 c.b := by
    unfold renewC
    rw [if_neg (by simpa using h2)]
  rw [e]
  clear e h2
  generalize (slotC p me now c.a 0).1 = a at hs hn ⊢
  have hn1 := inB_iff.1 hn.1
  have hn2 := inB_iff.1 hn.2
  conv => whnf
  refine VW.sub (s' := stV 1000073 [(0, .av (.one (.ptr [9999] 0 0))), (3, .av (.one (.ptr [3] 0 0))), (4, .av (iA 0)), (5, .av (iA a))] [(9999, some (.box (callC p me now th))), (3, some (.box [iV c.kind, iV c.a, iV c.b, iV c.c, iV c.d, iV c.e]))]) rfl ?_ ?_
  · conv => whnf
    repeat (first | (refine ⟨by with_reducible rfl, ?_⟩; conv => whnf) | (refine ⟨rfl, ?_⟩; conv => whnf))
    exact True.intro
  refine VW.expl 9999 3 777 ?_
  conv => whnf
  refine side_lt (show 0 < p.heap.arena.length by omega) ?_
  conv => whnf
  refine VW.reg tiOk vtOk ?_
  conv => whnf
  refine idx_of hs.2.1 ?_
  conv => whnf
  refine side_lt hs.2.2 ?_
  conv => whnf
  have ew : renewBad (p.heap.arena.getD a.toNat (d0 .obj)) a c.b = (a == 0 || (!inB c.b 1 1000 || decide (1000000 < IntKind.i64.wrap ((p.heap.arena.getD a.toNat (d0 .obj)).til + c.b)))) := by
    unfold renewBad
    cases hq : inB c.b 1 1000
    · rfl
    · have := inB_iff.1 hq
      rw [wrap_in (by omega)]
  by_cases hbad : renewBad (p.heap.arena.getD a.toNat (d0 .obj)) a c.b = true
  · rw [if_pos hbad]
    rw [ew] at hbad
    clear ew
    refine VW.drw tiOk vtOk rfl ?_
    conv => whnf
    repeat' (first | (refine ⟨_, within_v c.b 1 1000, ?_⟩; conv => whnf) | (refine side_le (by (simp [lenW, winL]; omega)) ?_; conv => whnf) | (refine br (fun h => ?_) (fun h => ?_) <;> conv => whnf))
    all_goals first
      | (exfalso; clear hh ht hs hn hn1 hn2; simp_all [offN]; done)
      | skip
    all_goals
      refine VW.layG [9999] ?_
      conv => whnf
      refine VW.reg tiOk vtOk ?_
      conv => whnf
      conv => whnf
      repeat (first | (refine ⟨by with_reducible rfl, ?_⟩; conv => whnf) | (refine ⟨rfl, ?_⟩; conv => whnf))
      exact True.intro
  · rw [if_neg hbad]
    rw [ew] at hbad
    clear ew
    simp only [Bool.or_eq_true, not_or, Bool.not_eq_true, Bool.not_eq_false'] at hbad
    obtain ⟨b1, b2, b3⟩ := hbad
    have b4 := inB_iff.1 b2
    have hm : 0 ≤ (p.heap.arena.getD a.toNat (d0 .obj)).pages * c.b ∧ (p.heap.arena.getD a.toNat (d0 .obj)).pages * c.b ≤ 8 * 1000 := ⟨Int.mul_nonneg hn2.1 (by omega), Int.mul_le_mul hn2.2 b4.2 (by omega) (by omega)⟩
    have ew1 : IntKind.i64.wrap ((p.heap.arena.getD a.toNat (d0 .obj)).til + c.b) = (p.heap.arena.getD a.toNat (d0 .obj)).til + c.b := wrap_in (by omega)
    have ew2 : IntKind.i64.wrap ((p.heap.arena.getD a.toNat (d0 .obj)).pages * c.b) = (p.heap.arena.getD a.toNat (d0 .obj)).pages * c.b := wrap_in (by omega)
    refine VW.drw tiOk vtOk rfl ?_
    conv => whnf
    refine br_f b1 ?_
    conv => whnf
    refine ⟨_, within_v c.b 1 1000, ?_⟩
    conv => whnf
    refine br_f (by rw [b2]; rfl) ?_
    conv => whnf
    refine br_f b3 ?_
    conv => whnf
    have e : renewP p a c.b = if (payC p (resOf p (p.heap.arena.getD a.toNat (d0 .obj)).res) ⟨0, (p.heap.arena.getD a.toNat (d0 .obj)).pages * c.b, 0⟩).2 then (setHeap (payC p (resOf p (p.heap.arena.getD a.toNat (d0 .obj)).res) ⟨0, (p.heap.arena.getD a.toNat (d0 .obj)).pages * c.b, 0⟩).1 (renewH p.heap a c.b), 0) else (p, 6) := rfl
    refine VW.callD tiOk vtOk rfl 3 18 [] ?_
    conv => whnf
    refine ⟨_, ResOf_v p (p.heap.arena.getD a.toNat (d0 .obj)).res ht, ?_⟩
    conv => whnf
    have hk := pay_k p me now th (resOf p (p.heap.arena.getD a.toNat (d0 .obj)).res) ⟨0, (p.heap.arena.getD a.toNat (d0 .obj)).pages * c.b, 0⟩ ht
    have hp := payC_heap (p := p) (f := (resOf p (p.heap.arena.getD a.toNat (d0 .obj)).res)) (a := ⟨0, (p.heap.arena.getD a.toNat (d0 .obj)).pages * c.b, 0⟩)
    rw [← ew2] at e hk hp
    generalize payC p (resOf p (p.heap.arena.getD a.toNat (d0 .obj)).res) ⟨0, IntKind.i64.wrap ((p.heap.arena.getD a.toNat (d0 .obj)).pages * c.b), 0⟩ = q at e hk hp
    rw [e]
    clear e
    obtain ⟨⟨x0, x1, x2, x3, x4, x5, x6, x7, x8, x9⟩, qb⟩ := q
    obtain rfl : x3 = p.heap := hp.1
    replace hp := hp.2
    refine ⟨_, _, hk, ?_⟩
    conv => whnf
    cases qb
    · have hp2 : (⟨x0, x1, x2, p.heap, x4, x5, x6, x7, x8, x9⟩ : Part) = p := hp rfl
      rw [if_neg (by rintro ⟨⟩)]
      refine VW.layG [9999] ?_
      conv => whnf
      refine VW.reg tiOk vtOk ?_
      conv => whnf
      show _
      rw [← hp2]
      conv => whnf
      repeat (first | (refine ⟨by with_reducible rfl, ?_⟩; conv => whnf) | (refine ⟨rfl, ?_⟩; conv => whnf))
      exact True.intro
    · rw [if_pos rfl]
      refine VW.drw tiOk vtOk rfl ?_
      conv => whnf
      refine VW.layG [9999] ?_
      conv => whnf
      refine VW.reg tiOk vtOk ?_
      conv => whnf
      conv => whnf
      repeat (first | (refine ⟨by with_reducible rfl, ?_⟩; conv => whnf) | (refine ⟨(by show _ = p.heap.arena.set a.toNat (Obj.w4 ((p.heap.arena.getD a.toNat (d0 .obj)).til + c.b) (p.heap.arena.getD a.toNat (d0 .obj))); rw [← ew1]; rfl), ?_⟩; conv => whnf) | (refine ⟨rfl, ?_⟩; conv => whnf))
      exact True.intro
theorem data_v (p : Part) (me now th : Int) (c : Call) (hh : heapB p.heap) (hs : (slotC p me now c.a 2).2 ≠ 0) : VP Tryz.prog 92 (callC p me now th) [callA c] (callC p me now th) (.tup [iA (slotC p me now c.a 2).2, iA 0]) := by
  refine VP.go tiOk vtOk [1] Tryz.func92 rfl rfl rfl rfl rfl rfl ?_
  conv => whnf
  refine VW.call tiOk vtOk true 3 ?_
  conv => whnf
  refine ⟨_, _, slot_v p me now th c.a 2 hh.2, ?_⟩
  conv => whnf
  refine br_t (by simpa using hs) ?_
  conv => whnf
  conv => whnf
  repeat (first | (refine ⟨by with_reducible rfl, ?_⟩; conv => whnf) | (refine ⟨rfl, ?_⟩; conv => whnf))
  exact True.intro

end Go.Proofs.YtiimdlkeikcfiaaGreat.V

namespace Go.Proofs.YtiimdlkeikcfiaaGreat.V
open Go.RowKit M
set_option maxRecDepth 100000
set_option maxHeartbeats 1000000
def makeO (now : Int) (c : Call) (box : Int) : Obj := ⟨0, c.a, box, c.e, now + c.d, c.c, 0, 0, 0, false, [-1, -1], if c.a == 2 then List.replicate c.c.toNat 0 else [], []⟩
def makeOk (now : Int) (c : Call) : Bool := inB c.a 1 4 && (inB c.c 0 8 && (inB c.d 1 1000 && (!decide (1000000 < now + c.d) && inB c.e 0 4)))
def makeG (p : Part) (me : Int) (o : Obj) : Part × Int × Int :=
  if decide ((putA p.heap.arena o).2 < 0) then (p, 7, 0) else (setHeap p (bornG ⟨(putA p.heap.arena o).1, p.heap.gc⟩ (putA p.heap.arena o).2), 0, handleOf me (putA p.heap.arena o).2 ((putA p.heap.arena o).1.getD (putA p.heap.arena o).2.toNat (d0 .obj)).gen)
def makeC (p : Part) (me now : Int) (c : Call) : Part × Int × Int :=
  if makeOk now c then (if (slotC p me now c.b 1).2 != 0 then (p, (slotC p me now c.b 1).2, 0)
    else if (payC p c.e ⟨c.c, c.c * c.d, 0⟩).2 then makeG (payC p c.e ⟨c.c, c.c * c.d, 0⟩).1 me (makeO now c (slotC p me now c.b 1).1)
    else (p, 6, 0)) else (p, 2, 0)
theorem putA_in {l : List Obj} {o : Obj} (h : ¬ (putA l o).2 < 0) : 0 ≤ (putA l o).2 ∧ (putA l o).2.toNat < (putA l o).1.length := by
  unfold putA at h ⊢
  split
  · rename_i e
    rw [if_pos e] at h
    simp only [Bool.and_eq_true] at e
    have hl := arenaOk_len e.1
    split at h
    · rename_i i hi
      have h10 := List.mem_range.1 (List.mem_of_find?_eq_some hi)
      split at h
      · rename_i e2
        rw [if_pos e2]
        refine ⟨by simp, ?_⟩
        unfold putAt
        simp only [List.length_set]
        omega
      · exact absurd (show (-1 : Int) < 0 by decide) h
    · exact absurd (show (-1 : Int) < 0 by decide) h
  · rename_i e
    rw [if_neg e] at h
    exact absurd (show (-1 : Int) < 0 by decide) h
theorem putA_B {l : List Obj} {o : Obj} (hl : arenaB l) (ho : objB o ∧ -1000000000000 ≤ o.wait ∧ o.wait ≤ 1000000000000) : arenaB (putA l o).1 := by
  unfold putA
  split
  · split
    · split
      · exact arenaB_set hl ho
      · exact hl
    · exact hl
  · exact hl
theorem makeO_B {now : Int} {c : Call} {sl : Int} (h : 0 ≤ c.c ∧ c.c ≤ 8) : objB (makeO now c sl) ∧ -1000000000000 ≤ (makeO now c sl).wait ∧ (makeO now c sl).wait ≤ 1000000000000 := by
  refine ⟨⟨by show 2 ≤ 1000000000; decide, ?_, by show 0 ≤ 1000000000; decide⟩, by show (-1000000000000:Int) ≤ 0; decide, by show (0:Int) ≤ 1000000000000; decide⟩
  show (if _ then _ else _ : List Int).length ≤ _
  split
  · rw [List.length_replicate]; omega
  · exact Nat.zero_le _
theorem make_v (p : Part) (me now th : Int) (c : Call) (hb : heapB p.heap) (ht : p.tree.length ≤ 1000000000) (hn : 0 ≤ now ∧ now ≤ 1000000) : VP Tryz.prog 120 (callC p me now th) [callA c] (callC (makeC p me now c).1 me now th) (.tup [iA (makeC p me now c).2.1, iA (makeC p me now c).2.2]) := by
  by_cases hok : makeOk now c = true
  · have eM : makeC p me now c = if (slotC p me now c.b 1).2 != 0 then (p, (slotC p me now c.b 1).2, 0)
      else if (payC p c.e ⟨c.c, c.c * c.d, 0⟩).2 then makeG (payC p c.e ⟨c.c, c.c * c.d, 0⟩).1 me (makeO now c (slotC p me now c.b 1).1)
      else (p, 6, 0) := if_pos hok
    simp only [makeOk, Bool.and_eq_true] at hok
    obtain ⟨k1, k2, k3, k4, k5⟩ := hok
    have j1 := inB_iff.1 k1
    have j2 := inB_iff.1 k2
    have j3 := inB_iff.1 k3
    have ew : IntKind.i64.wrap (now + c.d) = now + c.d := wrap_in (by omega)
    have hcd : 0 ≤ c.c * c.d ∧ c.c * c.d ≤ 8 * 1000 := ⟨Int.mul_nonneg j2.1 (by omega), Int.mul_le_mul j2.2 j3.2 (by omega) (by omega)⟩
    have ew2 : IntKind.i64.wrap (c.c * c.d) = c.c * c.d := wrap_in (by omega)
    refine VP.go tiOk vtOk [3,6,8,9,10,11,14] Tryz.func120 rfl rfl rfl rfl rfl rfl ?_
    conv => whnf
    refine ⟨_, within_v c.a 1 4, ?_⟩
    conv => whnf
    refine br_f (by rw [k1]; rfl) ?_
    conv => whnf
    refine ⟨_, within_v c.c 0 8, ?_⟩
    conv => whnf
    refine br_f (by rw [k2]; rfl) ?_
    conv => whnf
    refine ⟨_, within_v c.d 1 1000, ?_⟩
    conv => whnf
    refine br_f (by rw [k3]; rfl) ?_
    conv => whnf
    refine br_f (by rw [ew]; simpa using k4) ?_
    conv => whnf
    refine ⟨_, isPlace_v c.e, ?_⟩
    conv => whnf
    refine br_f (by rw [k5]; rfl) ?_
    conv => whnf
    refine VW.call tiOk vtOk true 3 ?_
    conv => whnf
    refine ⟨_, _, slot_v p me now th c.b 1 hb.2, ?_⟩
    conv => whnf
    refine br (fun h2 => ?_) (fun h2 => ?_)
    · have e : makeC p me now c = (p, (slotC p me now c.b 1).2, 0) := by rw [eM, if_pos h2]
      rw [e]
      conv => whnf
      repeat (first | (refine ⟨by with_reducible rfl, ?_⟩; conv => whnf) | (refine ⟨rfl, ?_⟩; conv => whnf))
      exact True.intro
    rw [if_neg (by rw [h2]; simp)] at eM
    conv => whnf
    refine VW.call tiOk vtOk true 11 ?_
    conv => whnf
    rw [ew2]
    refine ⟨_, _, pay_v p me now th c.e ⟨c.c, c.c * c.d, 0⟩ ht, ?_⟩
    have hp := payC_heap (p := p) (f := c.e) (a := ⟨c.c, c.c * c.d, 0⟩)
    generalize payC p c.e ⟨c.c, c.c * c.d, 0⟩ = q at eM hp ⊢
    conv => whnf
    refine br (fun h3 => ?_) (fun h3 => ?_)
    · have hq : q.2 = false := by simpa using h3
      rw [hq] at eM
      have e : makeC p me now c = (q.1, 6, 0) := by rw [eM, hp.2 hq]; rfl
      rw [e]
      conv => whnf
      repeat (first | (refine ⟨by with_reducible rfl, ?_⟩; conv => whnf) | (refine ⟨rfl, ?_⟩; conv => whnf))
      exact True.intro
    have hq : q.2 = true := by simpa using h3
    rw [hq, if_pos rfl] at eM
    rw [eM]
    have hb2 : heapB q.1.heap := by rw [hp.1]; exact hb
    generalize q.1 = p1 at hb2 ⊢
    generalize (slotC p me now c.b 1).1 = sl
    conv => whnf
    refine VW.sub (s' := stV 1000130 [(0, .av (.one (.ptr [9999] 0 0))), (3, .av (.one (.ptr [3] 0 0))), (4, .av (iA 0)), (5, .av (iA 0)), (6, .av (iA sl))] [(9999, some (.box (callC p1 me now th))), (3, some (.box [iV c.kind, iV c.a, iV c.b, iV c.c, iV c.d, iV c.e]))]) rfl ?_ ?_
    · conv => whnf
      repeat (first | (refine ⟨by with_reducible rfl, ?_⟩; conv => whnf) | (refine ⟨rfl, ?_⟩; conv => whnf))
      exact True.intro
    refine VW.drw tiOk vtOk rfl ?_
    conv => whnf
    refine VW.sub (s' := stV 1000130 [(0, .av (.one (.ptr [9999] 0 0))), (3, .av (.one (.ptr [3] 0 0))), (4, .av (iA 0)), (5, .av (iA 0)), (6, .av (iA sl)), (8, .av (.one (.ptr [8] 0 0)))] [(9999, some (.box (callC p1 me now th))), (3, some (.box [iV c.kind, iV c.a, iV c.b, iV c.c, iV c.d, iV c.e])), (8, some (.box [iV 0, iV c.a, iV sl, iV c.e, iV (now + c.d), iV c.c, iV 0, iV 0, iV 0, bV false, .own .i64 true [-1, -1] [], .sc (.slice none 0 0), .sc (.slice none 0 0)]))]) rfl ?_ ?_
    · conv => whnf
      repeat (first | (refine ⟨by with_reducible rfl, ?_⟩; conv => whnf) | (refine ⟨congrArg _ ew, ?_⟩; conv => whnf) | (refine ⟨rfl, ?_⟩; conv => whnf))
      exact True.intro
    refine VW.reg tiOk vtOk ?_
    conv => whnf
    refine br (fun h5 => ?_) (fun h5 => ?_)
    · conv => whnf
      refine VW.reg tiOk vtOk ?_
      conv => whnf
      refine idx_of j2.1 ?_
      conv => whnf
      refine idx_of j2.1 ?_
      conv => whnf
      refine side_eq rfl ?_
      conv => whnf
      refine side_le (show c.c.toNat ≤ 1000000000 by omega) ?_
      conv => whnf
      refine VW.sub (s' := stV 1000130 [(0, .av (.one (.ptr [9999] 0 0))), (3, .av (.one (.ptr [3] 0 0))), (4, .av (iA 0)), (5, .av (iA 0)), (8, .av (.one (.ptr [8] 0 0)))] [(9999, some (.box (callC p1 me now th))), (3, some (.box [iV c.kind, iV c.a, iV c.b, iV c.c, iV c.d, iV c.e])), (8, some (.box [iV 0, iV c.a, iV sl, iV c.e, iV (now + c.d), iV c.c, iV 0, iV 0, iV 0, bV false, .own .i64 true [-1, -1] [], .own .i64 true (List.replicate c.c.toNat 0) [], .sc (.slice none 0 0)]))]) rfl ?_ ?_
      · conv => whnf
        repeat (first | (refine ⟨by with_reducible rfl, ?_⟩; conv => whnf) | (refine ⟨rfl, ?_⟩; conv => whnf))
        exact True.intro
      refine VW.drw tiOk vtOk rfl ?_
      conv => whnf
      have hbo := makeO_B (now := now) (c := c) (sl := sl) j2
      have eO : makeO now c sl = ⟨0, c.a, sl, c.e, now + c.d, c.c, 0, 0, 0, false, [-1, -1], List.replicate c.c.toNat 0, []⟩ := by simp only [makeO, h5]; rfl
      have hv := ArenaPut_v p1.heap.arena (makeO now c sl) hb2.2 hbo
      have hpi := putA_in (l := p1.heap.arena) (o := makeO now c sl)
      have hpb := putA_B (l := p1.heap.arena) (o := makeO now c sl) hb2.2 hbo
      have eG : makeG p1 me (makeO now c sl) = if decide ((putA p1.heap.arena (makeO now c sl)).2 < 0) then (p1, 7, 0) else (setHeap p1 (bornG ⟨(putA p1.heap.arena (makeO now c sl)).1, p1.heap.gc⟩ (putA p1.heap.arena (makeO now c sl)).2), 0, handleOf me (putA p1.heap.arena (makeO now c sl)).2 ((putA p1.heap.arena (makeO now c sl)).1.getD (putA p1.heap.arena (makeO now c sl)).2.toNat (d0 .obj)).gen) := rfl
      rw [eG]
      rw [eO] at hv
      rw [← eO] at hv
      generalize putA p1.heap.arena (makeO now c sl) = r at hv hpi hpb ⊢
      rw [eO] at hv
      refine ⟨_, VC.le hv (.cons .refl (.cons (.agg (by (repeat (first | exact .nil | refine .cons .refl ?_ | refine .cons .nil ?_)))) .nil)), ?_⟩
      conv => whnf
      refine br (fun h6 => ?_) (fun h6 => ?_)
      · rw [if_pos h6]
        conv => whnf
        repeat (first | (refine ⟨by with_reducible rfl, ?_⟩; conv => whnf) | (refine ⟨rfl, ?_⟩; conv => whnf))
        exact True.intro
      rw [if_neg (by rw [h6]; simp)]
      have hri := hpi (by simpa using h6)
      conv => whnf
      refine VW.raw tiOk vtOk ?_
      conv => whnf
      refine ⟨_, GcBorn_v ⟨r.1, p1.heap.gc⟩ r.2 ⟨hb2.1, hpb⟩, ?_⟩
      conv => whnf
      refine idx_of hri.1 ?_
      conv => whnf
      refine side_lt hri.2 ?_
      conv => whnf
      refine ⟨_, HandleOf_v me r.2 _, ?_⟩
      conv => whnf
      conv => whnf
      repeat (first | (refine ⟨by with_reducible rfl, ?_⟩; conv => whnf) | (refine ⟨rfl, ?_⟩; conv => whnf))
      exact True.intro
    · conv => whnf
      refine VW.sub (s' := stV 1000130 [(0, .av (.one (.ptr [9999] 0 0))), (3, .av (.one (.ptr [3] 0 0))), (4, .av (iA 0)), (5, .av (iA 0)), (8, .av (.one (.ptr [8] 0 0)))] [(9999, some (.box (callC p1 me now th))), (3, some (.box [iV c.kind, iV c.a, iV c.b, iV c.c, iV c.d, iV c.e])), (8, some (.box [iV 0, iV c.a, iV sl, iV c.e, iV (now + c.d), iV c.c, iV 0, iV 0, iV 0, bV false, .own .i64 true [-1, -1] [], .sc (.slice none 0 0), .sc (.slice none 0 0)]))]) rfl ?_ ?_
      · conv => whnf
        repeat (first | (refine ⟨by with_reducible rfl, ?_⟩; conv => whnf) | (refine ⟨rfl, ?_⟩; conv => whnf))
        exact True.intro
      refine VW.drw tiOk vtOk rfl ?_
      conv => whnf
      have hbo := makeO_B (now := now) (c := c) (sl := sl) j2
      have eO : makeO now c sl = ⟨0, c.a, sl, c.e, now + c.d, c.c, 0, 0, 0, false, [-1, -1], [], []⟩ := by simp only [makeO, h5]; rfl
      have hv := ArenaPut_v p1.heap.arena (makeO now c sl) hb2.2 hbo
      have hpi := putA_in (l := p1.heap.arena) (o := makeO now c sl)
      have hpb := putA_B (l := p1.heap.arena) (o := makeO now c sl) hb2.2 hbo
      have eG : makeG p1 me (makeO now c sl) = if decide ((putA p1.heap.arena (makeO now c sl)).2 < 0) then (p1, 7, 0) else (setHeap p1 (bornG ⟨(putA p1.heap.arena (makeO now c sl)).1, p1.heap.gc⟩ (putA p1.heap.arena (makeO now c sl)).2), 0, handleOf me (putA p1.heap.arena (makeO now c sl)).2 ((putA p1.heap.arena (makeO now c sl)).1.getD (putA p1.heap.arena (makeO now c sl)).2.toNat (d0 .obj)).gen) := rfl
      rw [eG]
      rw [eO] at hv
      rw [← eO] at hv
      generalize putA p1.heap.arena (makeO now c sl) = r at hv hpi hpb ⊢
      rw [eO] at hv
      refine ⟨_, VC.le hv (.cons .refl (.cons (.agg (by (repeat (first | exact .nil | refine .cons .refl ?_ | refine .cons .nil ?_)))) .nil)), ?_⟩
      conv => whnf
      refine br (fun h6 => ?_) (fun h6 => ?_)
      · rw [if_pos h6]
        conv => whnf
        repeat (first | (refine ⟨by with_reducible rfl, ?_⟩; conv => whnf) | (refine ⟨rfl, ?_⟩; conv => whnf))
        exact True.intro
      rw [if_neg (by rw [h6]; simp)]
      have hri := hpi (by simpa using h6)
      conv => whnf
      refine VW.raw tiOk vtOk ?_
      conv => whnf
      refine ⟨_, GcBorn_v ⟨r.1, p1.heap.gc⟩ r.2 ⟨hb2.1, hpb⟩, ?_⟩
      conv => whnf
      refine idx_of hri.1 ?_
      conv => whnf
      refine side_lt hri.2 ?_
      conv => whnf
      refine ⟨_, HandleOf_v me r.2 _, ?_⟩
      conv => whnf
      conv => whnf
      repeat (first | (refine ⟨by with_reducible rfl, ?_⟩; conv => whnf) | (refine ⟨rfl, ?_⟩; conv => whnf))
      exact True.intro
  · have e : makeC p me now c = (p, 2, 0) := if_neg hok
    rw [e]
    refine VP.go tiOk vtOk [3,6,8,14] Tryz.func120 rfl rfl rfl rfl rfl rfl ?_
    conv => whnf
    repeat' (first | (refine ⟨_, within_v c.a 1 4, ?_⟩; conv => whnf) | (refine ⟨_, within_v c.c 0 8, ?_⟩; conv => whnf) | (refine ⟨_, within_v c.d 1 1000, ?_⟩; conv => whnf) | (refine ⟨_, isPlace_v c.e, ?_⟩; conv => whnf) | (refine side_le (by (simp [lenW, winL]; omega)) ?_; conv => whnf) | (refine br (fun h => ?_) (fun h => ?_) <;> conv => whnf))
    any_goals
      conv => whnf
      repeat (first | (refine ⟨by with_reducible rfl, ?_⟩; conv => whnf) | (refine ⟨rfl, ?_⟩; conv => whnf))
      exact True.intro
    exfalso
    rename_i a1 a2 a3 a4
    have a5 := h
    have k3 := inB_iff.1 (show inB c.d 1 1000 = true by simpa using a3)
    rw [wrap_in (by omega)] at a4
    refine hok ?_
    simp only [Bool.not_eq_false'] at a1 a2 a3 a5
    simp only [makeOk, a1, a2, a3, a4, a5]
    rfl
def doC (p : Part) (me now : Int) (c : Call) : Part × Int × Int :=
  if c.kind == 1 then makeC p me now c else if c.kind == 2 || c.kind == 3 then ((linkC p me now c).1, (linkC p me now c).2, 0) else if c.kind == 4 || c.kind == 5 then ((moveC p me now c).1, (moveC p me now c).2, 0)
  else if c.kind == 6 then (p, (slotC p me now c.a 2).2, 0) else ((renewC p me now c).1, (renewC p me now c).2, 0)
def doK (p : Part) (me now : Int) (c : Call) : Prop := (1 ≤ c.kind ∧ c.kind ≤ 5) ∨ c.kind = 8 ∨ (c.kind = 6 ∧ (slotC p me now c.a 2).2 ≠ 0)
theorem doK.in {p : Part} {me now : Int} {c : Call} (h : doK p me now c) : 1 ≤ c.kind ∧ c.kind ≤ 8 ∧ c.kind ≠ 7 := by
  rcases h with h | h | h <;> omega
theorem do_v (p : Part) (me now th : Int) (c : Call) (hb : heapB p.heap) (ht : p.tree.length ≤ 1000000000) (hn : 0 ≤ now ∧ now ≤ 1000000) (hk : doK p me now c) : VP Tryz.prog 95 (callC p me now th) [callA c] (callC (doC p me now c).1 me now th) (.tup [iA (doC p me now c).2.1, iA (doC p me now c).2.2]) := by
  have hk1 := hk.in
  refine VP.go tiOk vtOk [3,6,9,12,14] Tryz.func95 rfl rfl rfl rfl rfl rfl ?_
  conv => whnf
  refine br (fun h1 => ?_) (fun h1 => ?_)
  · have e : doC p me now c = makeC p me now c := if_pos h1
    rw [e]
    refine VW.call tiOk vtOk true 2 ?_
    conv => whnf
    refine ⟨_, _, make_v p me now th c hb ht hn, ?_⟩
    conv => whnf
    repeat (first | (refine ⟨by with_reducible rfl, ?_⟩; conv => whnf) | (refine ⟨rfl, ?_⟩; conv => whnf))
    exact True.intro
  conv => whnf
  refine br (fun h2 => ?_) (fun h2 => ?_)
  · have e : doC p me now c = ((linkC p me now c).1, (linkC p me now c).2, 0) := by unfold doC; rw [h1, h2]; rfl
    rw [e]
    conv => whnf
    refine br_t h2 ?_
    conv => whnf
    refine VW.call tiOk vtOk true 2 ?_
    conv => whnf
    refine ⟨_, _, link_v p me now th c hb, ?_⟩
    conv => whnf
    repeat (first | (refine ⟨by with_reducible rfl, ?_⟩; conv => whnf) | (refine ⟨rfl, ?_⟩; conv => whnf))
    exact True.intro
  conv => whnf
  refine br (fun h3 => ?_) (fun h3 => ?_)
  · have e : doC p me now c = ((linkC p me now c).1, (linkC p me now c).2, 0) := by unfold doC; rw [h1, h2, h3]; rfl
    rw [e]
    refine VW.call tiOk vtOk true 2 ?_
    conv => whnf
    refine ⟨_, _, link_v p me now th c hb, ?_⟩
    conv => whnf
    repeat (first | (refine ⟨by with_reducible rfl, ?_⟩; conv => whnf) | (refine ⟨rfl, ?_⟩; conv => whnf))
    exact True.intro
  conv => whnf
  refine br (fun h4 => ?_) (fun h4 => ?_)
  · have e : doC p me now c = ((moveC p me now c).1, (moveC p me now c).2, 0) := by unfold doC; rw [h1, h2, h3, h4]; rfl
    rw [e]
    conv => whnf
    refine br_t h4 ?_
    conv => whnf
    refine VW.call tiOk vtOk true 2 ?_
    conv => whnf
    refine ⟨_, _, move_v p me now th c hb, ?_⟩
    conv => whnf
    repeat (first | (refine ⟨by with_reducible rfl, ?_⟩; conv => whnf) | (refine ⟨rfl, ?_⟩; conv => whnf))
    exact True.intro
  conv => whnf
  refine br (fun h5 => ?_) (fun h5 => ?_)
  · have e : doC p me now c = ((moveC p me now c).1, (moveC p me now c).2, 0) := by unfold doC; rw [h1, h2, h3, h4, h5]; rfl
    rw [e]
    refine VW.call tiOk vtOk true 2 ?_
    conv => whnf
    refine ⟨_, _, move_v p me now th c hb, ?_⟩
    conv => whnf
    repeat (first | (refine ⟨by with_reducible rfl, ?_⟩; conv => whnf) | (refine ⟨rfl, ?_⟩; conv => whnf))
    exact True.intro
  conv => whnf
  refine br (fun h6 => ?_) (fun h6 => ?_)
  · have e : doC p me now c = (p, (slotC p me now c.a 2).2, 0) := by unfold doC; rw [h1, h2, h3, h4, h5, h6]; rfl
    rw [e]
    have h66 : c.kind = 6 := by simpa using h6
    conv => whnf
    refine br_t h6 ?_
    conv => whnf
    refine VW.call tiOk vtOk true 2 ?_
    conv => whnf
    refine ⟨_, _, data_v p me now th c hb (by rcases hk with h | h | h; (omega); (omega); exact h.2), ?_⟩
    conv => whnf
    repeat (first | (refine ⟨by with_reducible rfl, ?_⟩; conv => whnf) | (refine ⟨rfl, ?_⟩; conv => whnf))
    exact True.intro
  have e : doC p me now c = ((renewC p me now c).1, (renewC p me now c).2, 0) := by unfold doC; rw [h1, h2, h3, h4, h5, h6]; rfl
  rw [e]
  simp only [beq_eq_false_iff_ne] at h1 h2 h3 h4 h5 h6
  conv => whnf
  refine br_f (by simp; omega) ?_
  conv => whnf
  refine br_t (by simp; omega) ?_
  conv => whnf
  refine VW.call tiOk vtOk true 2 ?_
  conv => whnf
  refine ⟨_, _, renew_v p me now th c hb ht, ?_⟩
  conv => whnf
  repeat (first | (refine ⟨by with_reducible rfl, ?_⟩; conv => whnf) | (refine ⟨rfl, ?_⟩; conv => whnf))
  exact True.intro

end Go.Proofs.YtiimdlkeikcfiaaGreat.V

namespace Go.Proofs.YtiimdlkeikcfiaaGreat.V
open Go.RowKit M
set_option maxRecDepth 100000
set_option maxHeartbeats 1000000
abbrev partZ : List CV := [.sc (.slice none 0 0), .sc (.slice none 0 0), .sc (.slice none 0 0), .sc (.slice none 0 0), iV 0, iV 0, iV 0, .sc (.slice none 0 0), .sc (.slice none 0 0), iV 0, iV 0, iV 0, iV 0, iV 0, iV 0, iV 0]
def partG (p : Part) : Prop := partB p ∧ partCB p ∧ p.heap.gc.grey.length ≤ 100000000
theorem partG.heap {p : Part} (h : partG p) : heapB p.heap := ⟨h.2.2, h.1.2.2.2.1⟩
def pressP (p : Part) : Part := { p with press := min (p.press + 1) 1000000 }
def partCall (p : Part) (me now th : Int) (c : Call) : Part × Int × Int :=
  if partOk p && (inB me 0 2 && inB now 0 1000000) then (if canCall p now th then (if (doC p me now c).2.1 == 0 then ((doC p me now c).1, 0, (doC p me now c).2.2)
    else (if c.kind == 1 && ((doC p me now c).2.1 == 6 || (doC p me now c).2.1 == 7) then pressP p else p, (doC p me now c).2.1, 0)) else (p, 1, 0)) else (p, 2, 0)
theorem PartCall_v (p : Part) (me now th : Int) (c : Call) (hb : partG p) (hk : doK p me now c) : VC Tryz.prog 57 [.agg (partA2 p), iA me, iA now, iA th, callA c] (.tup [.agg (partR (partCall p me now th c).1), .agg [iV (partCall p me now th c).2.1, iV (partCall p me now th c).2.2]]) := by
  by_cases h1 : (partOk p && (inB me 0 2 && inB now 0 1000000)) = true
  · have e1 : partCall p me now th c = (if canCall p now th then (if (doC p me now c).2.1 == 0 then ((doC p me now c).1, 0, (doC p me now c).2.2)
      else (if c.kind == 1 && ((doC p me now c).2.1 == 6 || (doC p me now c).2.1 == 7) then pressP p else p, (doC p me now c).2.1, 0)) else (p, 1, 0)) := if_pos h1
    simp only [Bool.and_eq_true] at h1
    obtain ⟨k1, k2, k3⟩ := h1
    refine VC.go tiOk vtOk [6,9] Tryz.func57 rfl rfl ?_
    conv => whnf
    refine ⟨_, PartOk_v p hb.1, ?_⟩
    conv => whnf
    refine br_f (by rw [k1]; rfl) ?_
    conv => whnf
    refine ⟨_, isPart_v me, ?_⟩
    conv => whnf
    refine br_f (by rw [k2]; rfl) ?_
    conv => whnf
    refine ⟨_, isTime_v now, ?_⟩
    conv => whnf
    refine br_f (by rw [k3]; rfl) ?_
    conv => whnf
    refine ⟨_, CanCall_v p now th hb.1, ?_⟩
    conv => whnf
    by_cases h2 : canCall p now th = true
    · rw [if_pos h2] at e1
      refine br_f (by rw [h2]; rfl) ?_
      conv => whnf
      refine ⟨_, copyPart_v p hb.2.1, ?_⟩
      conv => whnf
      refine VW.call tiOk vtOk true 2 ?_
      conv => whnf
      refine ⟨_, _, do_v p me now th c hb.heap hb.1.2.2.1 (inB_iff.1 k3) hk, ?_⟩
      generalize doC p me now c = r at e1 ⊢
      conv => whnf
      refine br (fun h3 => ?_) (fun h3 => ?_)
      · rw [if_pos h3] at e1
        rw [e1]
        conv => whnf
        repeat (first | (refine ⟨by with_reducible rfl, ?_⟩; conv => whnf) | (refine ⟨rfl, ?_⟩; conv => whnf))
        exact True.intro
      · rw [if_neg (by rw [h3]; simp)] at e1
        conv => whnf
        refine VW.sub (s' := stV 82 [(1, .av (iA me)), (2, .av (iA now)), (3, .av (iA th)), (5, .av (.one (.ptr [5] 0 0))), (9, .av (.one (.ptr [9] 0 0))), (10, .av (.one (.ptr [10] 0 0))), (11, .av (.one (.ptr [11] 0 0))), (13, .av (.one (iV r.2.1)))] [(5, some (.box (partA2 p))), (9, some (.box [iV c.kind, iV c.a, iV c.b, iV c.c, iV c.d, iV c.e])), (10, some (.box partZ)), (11, some (.box [iV 0, iV 0]))]) rfl ?_ ?_
        · conv => whnf
          repeat (first | (refine ⟨by with_reducible rfl, ?_⟩; conv => whnf) | (refine ⟨rfl, ?_⟩; conv => whnf))
          exact True.intro
        refine VW.reg tiOk vtOk ?_
        conv => whnf
        refine ⟨_, copyPart_v p hb.2.1, ?_⟩
        conv => whnf
        by_cases hp : (c.kind == 1 && (r.2.1 == 6 || r.2.1 == 7)) = true
        · rw [if_pos hp] at e1
          rw [e1]
          have hpr : 0 ≤ p.press ∧ p.press ≤ 1000000 := by
            simp only [partOk, Bool.and_eq_true] at k1
            exact inB_iff.1 k1.2.2.2.2.2.2.2.2.2.1
          have e2 : IntKind.i64.wrap (p.press + 1) = p.press + 1 := wrap_in (by omega)
          have e3 : (if 1000000 < IntKind.i64.wrap (p.press + 1) then 1000000 else IntKind.i64.wrap (p.press + 1)) = min (p.press + 1) 1000000 := by rw [e2]; split <;> omega
          repeat' (first | (refine side_le (by (simp [lenW, winL]; omega)) ?_; conv => whnf) | (refine br (fun h => ?_) (fun h => ?_) <;> conv => whnf))
          all_goals first
            | (exfalso; clear e1 e2 e3 hb hpr k1 k2 k3 h2 hk; simp_all; done)
            | skip
          all_goals
            conv => whnf
            repeat (first | (refine ⟨by with_reducible rfl, ?_⟩; conv => whnf) | (refine ⟨congrArg _ e3, ?_⟩; conv => whnf) | (refine ⟨rfl, ?_⟩; conv => whnf))
            exact True.intro
        · rw [if_neg hp] at e1
          rw [e1]
          repeat' (first | (refine side_le (by (simp [lenW, winL]; omega)) ?_; conv => whnf) | (refine br (fun h => ?_) (fun h => ?_) <;> conv => whnf))
          all_goals first
            | (exfalso; clear e1 hb k1 k2 k3 h2 hk; simp_all; done)
            | skip
          all_goals
            conv => whnf
            repeat (first | (refine ⟨by with_reducible rfl, ?_⟩; conv => whnf) | (refine ⟨rfl, ?_⟩; conv => whnf))
            exact True.intro
    · rw [if_neg h2] at e1
      rw [e1]
      refine br_t (by simpa using h2) ?_
      conv => whnf
      refine ⟨_, copyPart_v p hb.2.1, ?_⟩
      conv => whnf
      conv => whnf
      repeat (first | (refine ⟨by with_reducible rfl, ?_⟩; conv => whnf) | (refine ⟨rfl, ?_⟩; conv => whnf))
      exact True.intro
  · have e1 : partCall p me now th c = (p, 2, 0) := if_neg h1
    rw [e1]
    refine VC.go tiOk vtOk [] Tryz.func57 rfl rfl ?_
    conv => whnf
    repeat' (first | (refine ⟨_, PartOk_v p hb.1, ?_⟩; conv => whnf) | (refine ⟨_, isPart_v me, ?_⟩; conv => whnf) | (refine ⟨_, isTime_v now, ?_⟩; conv => whnf) | (refine ⟨_, copyPart_v p hb.2.1, ?_⟩; conv => whnf) | (refine side_le (by (simp [lenW, winL]; omega)) ?_; conv => whnf) | (refine br (fun h => ?_) (fun h => ?_) <;> conv => whnf))
    all_goals first
      | (exfalso; clear e1 hb; simp_all; done)
      | skip
    all_goals
      conv => whnf
      repeat (first | (refine ⟨by with_reducible rfl, ?_⟩; conv => whnf) | (refine ⟨rfl, ?_⟩; conv => whnf))
      exact True.intro

end Go.Proofs.YtiimdlkeikcfiaaGreat.V

namespace Go.Proofs.YtiimdlkeikcfiaaGreat.V
open Go.RowKit M
set_option maxRecDepth 100000
set_option maxHeartbeats 1000000
theorem PartKill_v (p : Part) (now : Int) (hb : partB p) (hc : partCB p) (hp : p.press < 3) : VC Tryz.prog 38 [.agg (partA2 p), iA now] (.av (.agg (partR p))) := by
  refine VC.go tiOk vtOk [] Tryz.func38 rfl rfl ?_
  conv => whnf
  refine ⟨_, copyPart_v p hc, ?_⟩
  conv => whnf
  repeat' (first | (refine ⟨_, PartOk_v p hb, ?_⟩; conv => whnf) | (refine ⟨_, within_v now _ _, ?_⟩; conv => whnf) | (refine side_le (by (simp [lenW, winL]; omega)) ?_; conv => whnf) | (refine br (fun h => ?_) (fun h => ?_) <;> conv => whnf))
  all_goals first
    | (exfalso; clear hb hc; simp_all; done)
    | (exfalso; clear hb hc; simp_all; omega)
    | skip
  all_goals
    conv => whnf
    repeat (first | (refine ⟨by with_reducible rfl, ?_⟩; conv => whnf) | (refine ⟨rfl, ?_⟩; conv => whnf))
    exact True.intro
theorem PartWake_v (p : Part) (me now : Int) (hb : partB p) (hc : partCB p) (hw : ∀ o ∈ p.heap.arena, o.wait ≤ 0) : VC Tryz.prog 37 [.agg (partA2 p), iA me, iA now] (.av (.agg (partR p))) := by
  refine VC.go tiOk vtOk [] Tryz.func37 rfl rfl ?_
  conv => whnf
  refine ⟨_, copyPart_v p hc, ?_⟩
  conv => whnf
  refine ⟨_, PartOk_v p hb, ?_⟩
  conv => whnf
  refine br (fun h1 => ?_) (fun h1 => ?_)
  · conv => whnf
    repeat (first | (refine ⟨by with_reducible rfl, ?_⟩; conv => whnf) | (refine ⟨rfl, ?_⟩; conv => whnf))
    exact True.intro
  conv => whnf
  refine ⟨_, isPart_v me, ?_⟩
  conv => whnf
  refine br (fun h2 => ?_) (fun h2 => ?_)
  · conv => whnf
    repeat (first | (refine ⟨by with_reducible rfl, ?_⟩; conv => whnf) | (refine ⟨rfl, ?_⟩; conv => whnf))
    exact True.intro
  conv => whnf
  have hbl := hb.2.2.2.1.1
  refine goV_loop tiOk vtOk [] (fun k : Nat => stV 59 [(1, .av (iA me)), (2, .av (iA now)), (3, .av (.one (.ptr [3] 0 0))), (6, .av (.one (.ptr [6] 0 0))), (7, .av (.one (.ptr [7] 0 0))), (23, .av (.one (.ro .obj p.heap.arena))), (24, .av (.one (iV p.heap.arena.length))), (25, .av (.one (iV k)))] [(3, some (.box (partA2 p))), (6, some (.box partZ)), (7, some (.box (partR p)))]) (fun k => k ≤ p.heap.arena.length) (fun k => p.heap.arena.length - k) 0 (Nat.zero_le _) rfl ?_ fun k hj => ?_
  · conv => whnf
    repeat (first | (refine ⟨by with_reducible rfl, ?_⟩; conv => whnf) | (refine ⟨rfl, ?_⟩; conv => whnf))
    exact True.intro
  conv => whnf
  refine br (fun h => ?_) (fun h => ?_)
  · have hk : k < p.heap.arena.length := by simpa using h
    have hx := hw _ (getD_mem (d := d0 .obj) hk)
    conv => whnf
    refine side_lt hk ?_
    conv => whnf
    refine br_f (by simpa [offN] using hx) ?_
    conv => whnf
    refine ⟨k + 1, hk, by omega, rfl, ?_⟩
    conv => whnf
    repeat (first | (refine ⟨by with_reducible rfl, ?_⟩; conv => whnf) | (refine ⟨congrArg _ (wrap_nat k (by omega)), ?_⟩; conv => whnf) | (refine ⟨rfl, ?_⟩; conv => whnf))
    exact True.intro
  · conv => whnf
    repeat (first | (refine ⟨by with_reducible rfl, ?_⟩; conv => whnf) | (refine ⟨rfl, ?_⟩; conv => whnf))
    exact True.intro

end Go.Proofs.YtiimdlkeikcfiaaGreat.V

namespace Go.Proofs.YtiimdlkeikcfiaaGreat.V
open Go.RowKit M
set_option maxRecDepth 100000
set_option maxHeartbeats 1000000
def coll1 (now : Int) (s : Part × Int) : Part × Int :=
  if 0 ≤ (gcStepG s.1.heap now).2 then (⟨s.1.label, s.1.own, (backT s.1.tree (s.1.heap.arena.getD (gcStepG s.1.heap now).2.toNat (d0 .obj)).res ⟨(s.1.heap.arena.getD (gcStepG s.1.heap now).2.toNat (d0 .obj)).pages, 0, 0⟩).1, (gcStepG s.1.heap now).1, s.1.taps, s.1.next, s.1.want, s.1.spent, s.1.press, s.1.lost⟩, s.2 + 1)
  else (⟨s.1.label, s.1.own, s.1.tree, (gcStepG s.1.heap now).1, s.1.taps, s.1.next, s.1.want, s.1.spent, s.1.press, s.1.lost⟩, s.2)
def collN (now : Int) (p : Part) : Nat → Part × Int
  | 0 => (p, 0)
  | n + 1 => coll1 now (collN now p n)
theorem gcStep_in {H : Heap} {now : Int} (h : 0 ≤ (gcStepG H now).2) : (gcStepG H now).2.toNat < H.arena.length := by
  unfold gcStepG at h ⊢
  split at h
  · rename_i e
    rw [if_pos e]
    have hl := arenaOk_len (heapOk_arena e)
    split at h
    · rename_i e2
      rw [if_pos e2]
      have := (heapOk_at e).1 (by simpa using e2)
      simp only [sweepG] at h ⊢
      split at h
      · rename_i e3
        rw [if_pos e3]
        omega
      · exact absurd h (show ¬ (0 : Int) ≤ -1 by decide)
    · split at h
      · exact absurd h (show ¬ (0 : Int) ≤ -1 by decide)
      · split at h
        · exact absurd h (show ¬ (0 : Int) ≤ -1 by decide)
        · exact absurd h (show ¬ (0 : Int) ≤ -1 by decide)
  · exact absurd h (show ¬ (0 : Int) ≤ -1 by decide)
theorem collN_cnt {now : Int} {p : Part} : ∀ n, 0 ≤ (collN now p n).2 ∧ (collN now p n).2 ≤ n
  | 0 => ⟨Int.le_refl _, Int.le_refl _⟩
  | n + 1 => by
    have := collN_cnt (now := now) (p := p) n
    show 0 ≤ (coll1 now (collN now p n)).2 ∧ (coll1 now (collN now p n)).2 ≤ _
    unfold coll1
    split <;> (simp only; omega)
def collB (now : Int) (p : Part) (n : Nat) : Prop := ∀ k, k < n → heapB (collN now p k).1.heap ∧ (collN now p k).1.tree.length ≤ 1000000000
theorem PartCollect_v (p : Part) (now steps : Int) (hb : partB p) (hc : partCB p) (hs : 0 ≤ steps ∧ steps ≤ 100) (hok : partOk p = true) (hB : collB now p steps.toNat) : VC Tryz.prog 39 [.agg (partA2 p), iA now, iA steps] (.tup [.agg (partR (collN now p steps.toNat).1), iA (collN now p steps.toNat).2]) := by
  obtain ⟨n, rfl⟩ : ∃ n : Nat, steps = (n : Int) := ⟨steps.toNat, by omega⟩
  have en : ((n : Int)).toNat = n := by omega
  rw [en] at hB ⊢
  have hn : n ≤ 100 := by omega
  refine VC.go tiOk vtOk [5] Tryz.func39 rfl rfl ?_
  conv => whnf
  refine ⟨_, copyPart_v p hc, ?_⟩
  conv => whnf
  refine ⟨_, PartOk_v p hb, ?_⟩
  conv => whnf
  refine br_f (by rw [hok]; rfl) ?_
  conv => whnf
  refine ⟨_, within_v _ _ _, ?_⟩
  conv => whnf
  refine br_f (by rw [show inB (n : Int) 0 100 = true from inB_iff.2 hs]; rfl) ?_
  conv => whnf
  refine VW.reg tiOk vtOk ?_
  conv => whnf
  refine goV_loop tiOk vtOk [7] (fun k : Nat => stV 62 [(1, .av (iA now)), (2, .av (iA n)), (3, .av (.one (.ptr [3] 0 0))), (6, .av (.one (.ptr [6] 0 0))), (8, .av (.one (.ptr [8] 0 0))), (9, .av (.one (iV (collN now p k).2))), (25, .av (.one (iV n))), (26, .av (.one (iV k)))] [(3, some (.box (partA2 p))), (6, some (.box partZ)), (8, some (.box (partR (collN now p k).1)))]) (fun k => k ≤ n) (fun k => n - k) 0 (Nat.zero_le _) rfl ?_ fun k hj => ?_
  · conv => whnf
    repeat (first | (refine ⟨by with_reducible rfl, ?_⟩; conv => whnf) | (refine ⟨rfl, ?_⟩; conv => whnf))
    exact True.intro
  conv => whnf
  refine br (fun h => ?_) (fun h => ?_)
  · have hk : k < n := by simpa using h
    have hbk := hB k hk
    have hcn := collN_cnt (now := now) (p := p) k
    have hstep : collN now p (k + 1) = coll1 now (collN now p k) := rfl
    generalize collN now p k = S at hbk hstep hcn
    obtain ⟨P, c⟩ := S
    simp only at hbk hcn
    conv => whnf
    refine VW.raw tiOk vtOk ?_
    conv => whnf
    refine ⟨_, GcStep_v P.heap now hbk.1, ?_⟩
    conv => whnf
    have hin := gcStep_in (H := P.heap) (now := now)
    unfold coll1 at hstep
    simp only at hstep
    generalize gcStepG P.heap now = g at *
    by_cases hi : 0 ≤ g.2
    · rw [if_pos hi] at hstep
      have hin := hin hi
      refine br_t (by simpa using hi) ?_
      conv => whnf
      refine idx_of hi ?_
      conv => whnf
      refine side_lt hin ?_
      conv => whnf
      refine ⟨_, AmtOne_v _ _, ?_⟩
      conv => whnf
      refine ⟨_, TreeBack_v P.tree _ _ hbk.2, ?_⟩
      conv => whnf
      have e1 : IntKind.i64.wrap (c + 1) = c + 1 := wrap_in (by omega)
      refine ⟨k + 1, hk, by omega, rfl, ?_⟩
      rw [hstep]
      conv => whnf
      repeat (first | (refine ⟨by with_reducible rfl, ?_⟩; conv => whnf) | (refine ⟨congrArg _ (wrap_nat k (by omega)), ?_⟩; conv => whnf) | (refine ⟨congrArg _ e1, ?_⟩; conv => whnf) | (refine ⟨rfl, ?_⟩; conv => whnf))
      exact True.intro
    · rw [if_neg hi] at hstep
      refine br_f (by simpa using hi) ?_
      conv => whnf
      refine ⟨k + 1, hk, by omega, rfl, ?_⟩
      rw [hstep]
      conv => whnf
      repeat (first | (refine ⟨by with_reducible rfl, ?_⟩; conv => whnf) | (refine ⟨congrArg _ (wrap_nat k (by omega)), ?_⟩; conv => whnf) | (refine ⟨rfl, ?_⟩; conv => whnf))
      exact True.intro
  · have e : k = n := by simp at h; omega
    rw [e]
    conv => whnf
    repeat (first | (refine ⟨by with_reducible rfl, ?_⟩; conv => whnf) | (refine ⟨rfl, ?_⟩; conv => whnf))
    exact True.intro

end Go.Proofs.YtiimdlkeikcfiaaGreat.V

namespace Go.Proofs.YtiimdlkeikcfiaaGreat.V
open Go.RowKit M
set_option maxRecDepth 100000
set_option maxHeartbeats 1000000
def objX (o : Obj) (j : Nat) : MV :=
  match j with
  | 5 => .v (.int .i64 o.pages)
  | _ => .any
theorem nr_objX (o : Obj) (j : Nat) : NoRef (objX o j) := by unfold objX; split <;> first | exact .v | exact .any
theorem ro_i64 {x : Obj} {g : Obj → List Int} {p : List Int → Obj → Obj} : encC 3 false (t := .obj) (.sl .i64 g p) x = canC (.ro .i64 (g x)) :=
  congrArg (MV.tr false 1 _) (funext fun i => funext fun j => by match j with | 0 => rfl | j + 1 => rfl)
theorem ro_msg {x : Obj} {g : Obj → List Msg} {p : List Msg → Obj → Obj} : encC 3 false (t := .obj) (.sl .msg g p) x = canC (.ro .msg (g x)) :=
  congrArg (MV.tr false 2 _) (funext fun i => funext fun j => by match j with | 0 => rfl | 1 => rfl | j + 2 => rfl)
/-- The arguments of a call, one by one (as in XMEnc). -/
def FrzL (ft : List Nat) (bl : Nat → Option Blk) (vr : Nat → Nat) (tm : Nat → MV) : List Operand → List MV → Prop
  | [], [] => True
  | x :: xs, m :: ms => Frz ft bl vr (evS tm x) m ∧ FrzL ft bl vr tm xs ms
  | _, _ => False

theorem frzL_at {ft : List Nat} {bl : Nat → Option Blk} {vr : Nat → Nat} {tm : Nat → MV} : ∀ {xs : List Operand} {ms : List MV}, FrzL ft bl vr tm xs ms → xs.length = ms.length ∧ ∀ (i : Nat) (m : MV), ms[i]? = some m → ∃ x, xs[i]? = some x ∧ Frz ft bl vr (evS tm x) m
  | [], [], _ => ⟨rfl, fun i m h => by simp at h⟩
  | x :: xs, m :: ms, ⟨h1, h2⟩ => by
    obtain ⟨a1, a2⟩ := frzL_at h2
    refine ⟨by simp [a1], fun i m' hm => ?_⟩
    cases i with
    | zero =>
      simp only [List.getElem?_cons_zero, Option.some.injEq] at hm
      subst hm
      exact ⟨x, rfl, h1⟩
    | succ i => simpa using a2 i m' (by simpa using hm)

theorem frzL_ok {ft : List Nat} {bl : Nat → Option Blk} {vr : Nat → Nat} {tm : Nat → MV} {args : Array Operand} {ms : List MV} (h : FrzL ft bl vr tm args.toList ms) :
    args.size = ms.length ∧ ∀ (i : Nat) (m : MV), ms[i]? = some m → ∃ x, args[i]? = some x ∧ Frz ft bl vr (evS tm x) m := by
  obtain ⟨a1, a2⟩ := frzL_at h
  exact ⟨by simpa using a1, fun i m hm => by simpa using a2 i m hm⟩

theorem lt13 {p : Nat → Prop} (h0 : p 0) (h1 : p 1) (h2 : p 2) (h3 : p 3) (h4 : p 4) (h5 : p 5) (h6 : p 6) (h7 : p 7) (h8 : p 8) (h9 : p 9) (h10 : p 10) (h11 : p 11) (h12 : p 12) : ∀ j, j < 13 → p j
  | 0, _ => h0
  | 1, _ => h1
  | 2, _ => h2
  | 3, _ => h3
  | 4, _ => h4
  | 5, _ => h5
  | 6, _ => h6
  | 7, _ => h7
  | 8, _ => h8
  | 9, _ => h9
  | 10, _ => h10
  | 11, _ => h11
  | 12, _ => h12
  | n + 13, h => absurd h (by omega)

theorem frz_obj {ft : List Nat} {bl : Nat → Option Blk} {vr : Nat → Nat} {l : List Obj} {k : Nat} {m m' : MV} : ∀ j, j < 13 → m = encRow false .obj l k j → m' = canL (objA (l.getD k (d0 .obj))) j → Frz ft bl vr m m' := by
  have key : ∀ j, j < 13 → Frz ft bl vr (encRow false .obj l k j) (canL (objA (l.getD k (d0 .obj))) j) := lt13 .v .v .v .v .v .v .v .v .v .v (by (show Frz _ _ _ (encC 3 false (t := .obj) (.sl .i64 Obj.links Obj.w10) (l.getD k (d0 .obj))) _; rw [ro_i64]; exact .same)) (by (show Frz _ _ _ (encC 3 false (t := .obj) (.sl .i64 Obj.data Obj.w11) (l.getD k (d0 .obj))) _; rw [ro_i64]; exact .same)) (by (show Frz _ _ _ (encC 3 false (t := .obj) (.sl .msg Obj.queue Obj.w12) (l.getD k (d0 .obj))) _; rw [ro_msg]; exact .same))
  intro j hj e1 e2
  subst e1 e2
  exact key j hj
theorem firstThings_t (p : Part) (hb : arenaB p.heap.arena) (hl : p.heap.arena.length = 10) (ho : ∀ o ∈ p.heap.arena, objOk o = true) : TC Tryz.prog 24 [canA (.agg (partA p))] (.tr true 13 p.heap.arena.length (fun i j => objX (p.heap.arena.getD i (d0 .obj)) j)) := by
  have : NRL [canA (.agg (partA p))] := ⟨fun m hm => by rw [List.mem_singleton] at hm; subst hm; exact canA_noref _⟩
  refine TC.go tiOk Tryz.func24 rfl rfl ?_
  have e0 : (if (10 : Int) < (p.heap.arena.length : Int) then (10 : Int) else (p.heap.arena.length : Int)) = ((10 : Nat) : Int) := by rw [hl]; decide
  conv => whnf
  rw [e0]
  conv => whnf
  refine side_le (by rw [hl]; decide) ?_
  conv => whnf
  generalize p.heap.arena = l at *
  have nr : NoRef (.tr false 13 10 (fun i j => encRow false .obj l (0 + i) j)) := .tr (fun i j _ _ => row_noref _ _ _ _)
  refine goC_loop tiOk (fun k => stL 29 [(3, .ref [6] 0 13 0 k), (15, .tr false 13 10 (fun i j => encRow false .obj l (0 + i) j)), (16, .v (.int .i64 10)), (17, .v (.int .i64 ((k : Nat) : Int)))] [(6, ⟨13, k, fun i j => objX (l.getD i (d0 .obj)) j⟩)]) (fun k => k ≤ 10) (fun k => 10 - k) 0 (by omega) (GS.lists ⟨.ref rfl rfl rfl rfl rfl, .noref nr, .v rfl, .v rfl, trivial⟩ ⟨⟨rfl, rfl, fun i j hi _ => absurd hi (Nat.not_lt_zero i)⟩, trivial⟩ rfl) fun k hj => ?_
  conv => whnf
  refine br (fun h => ?_) (fun h => ?_)
  · have hk : k < 10 := by have := of_decide_eq_true h; omega
    have hkl : k < l.length := by omega
    have ho := ho _ (getD_mem (d := d0 .obj) hkl)
    have hx := hb.2 _ (getD_mem (d := d0 .obj) hkl)
    conv => whnf
    refine side_lt hk ?_
    conv => whnf
    refine side_lt hk ?_
    conv => whnf
    refine ⟨_, _, ObjOk_v (l.getD k (d0 .obj)) hx.1 hx.2, frzL_ok ⟨.agg fun j hj => ?_, trivial⟩, rfl, ?_⟩
    · refine frz_obj j hj ?_ rfl
      simp only [Nat.zero_add]
      revert j
      exact lt13 rfl rfl rfl rfl rfl rfl rfl rfl rfl rfl rfl rfl rfl
    conv => whnf
    rw [ho]
    conv => whnf
    refine side_le (by simp) ?_
    conv => whnf
    refine side_le (by simp; omega) ?_
    conv => whnf
    refine ⟨k + 1, hk, by omega, ?_⟩
    refine GS.lists ⟨.ref rfl rfl rfl rfl rfl, .noref nr, .v rfl, .v (congrArg _ (wrap_nat k (by omega))), trivial⟩ ⟨⟨rfl, rfl, fun i j hi hj => ?_⟩, trivial⟩ rfl
    by_cases e : i = k
    · subst e
      show Rn _ _ (bif Nat.blt i i then _ else _) _
      rw [blt_f (Nat.lt_irrefl i)]
      show Rn _ _ ((fun q j => _) (i - i) j) _
      rw [Nat.sub_self]
      simp only [Nat.zero_add]
      revert j
      exact lt13 .any .any .any .any .any (.v rfl) .any .any .any .any .any .any .any
    · have hi' : i < k := by simp only at hi; omega
      show Rn _ _ (bif Nat.blt i k then _ else _) _
      rw [blt_t hi']
      exact .noref (nr_objX _ _)
  · conv => whnf
    have hk : k = 10 := by have := of_decide_eq_false h; omega
    subst hk
    refine ⟨hl.symm, by rw [hl]; exact Nat.le_refl 10, fun i j hi hj => ?_, True.intro⟩
    revert j
    exact lt13 .any .any .any .any .any .refl .any .any .any .any .any .any .any
theorem lt16 {p : Nat → Prop} (h : ∀ j, j < 13 → p j) (h13 : p 13) (h14 : p 14) (h15 : p 15) (j : Nat) (hj : j < 16) : p j := by
  by_cases e : j < 13
  · exact h j e
  · obtain rfl | rfl | rfl : j = 13 ∨ j = 14 ∨ j = 15 := by omega
    · exact h13
    · exact h14
    · exact h15
def held (l : List Obj) : Int := l.foldl (fun s o => s + o.pages) 0
theorem objOk_pages {o : Obj} (h : objOk o = true) : 0 ≤ o.pages ∧ o.pages ≤ 8 := by
  unfold objOk at h
  simp only [Bool.and_eq_true] at h
  have h := h.2
  split at h
  · simp only [sameO, Bool.and_eq_true, beq_iff_eq] at h
    have : o.pages = 0 := by simp_all
    omega
  · simp only [Bool.and_eq_true, inB_iff] at h
    exact h.1.1.2
theorem held_take {l : List Obj} (ho : ∀ o ∈ l, objOk o = true) : ∀ k, k ≤ l.length → 0 ≤ held (l.take k) ∧ held (l.take k) ≤ 8 * k
  | 0, _ => by simp [held]
  | k + 1, hk => by
    have h1 := held_take ho k (by omega)
    have h2 := objOk_pages (ho _ (getD_mem (d := d0 .obj) (show k < l.length by omega)))
    have e : held (l.take (k + 1)) = held (l.take k) + (l.getD k (d0 .obj)).pages := by
      unfold held
      rw [foldl_take2 _ _ _ _ (d0 .obj) (by omega)]
    rw [e]
    omega
theorem Held_v (p : Part) (hb : arenaB p.heap.arena) (hl : p.heap.arena.length = 10) (ho : ∀ o ∈ p.heap.arena, objOk o = true) : VC Tryz.prog 13 [.agg (partA p)] (iR (held p.heap.arena)) := by
  have : NRL [canA (.agg (partA p))] := ⟨fun m hm => by rw [List.mem_singleton] at hm; subst hm; exact canA_noref _⟩
  show TC _ _ [canA (.agg (partA p))] _
  refine TC.go tiOk Tryz.func13 rfl rfl ?_
  conv => whnf
  refine ⟨_, _, firstThings_t p hb hl ho, frzL_ok ⟨.agg fun j hj => ?_, trivial⟩, rfl, ?_⟩
  · revert j
    exact lt16 (lt13 .same .same .same .same .v .v .v .same .same .v .v .v .v) .v .v .v
  conv => whnf
  generalize p.heap.arena = l at *
  refine goC_loop tiOk (fun k => stL 19 [(3, .v (.int .i64 (held (l.take k)))), (7, .ref [10007] 0 13 0 l.length), (8, .v (.int .i64 (l.length : Nat))), (9, .v (.int .i64 ((k : Nat) : Int)))] [(10007, ⟨13, l.length, fun i j => objX (l.getD i (d0 .obj)) j⟩)]) (fun k => k ≤ l.length) (fun k => l.length - k) 0 (by omega) (GS.lists ⟨.v rfl, .ref rfl rfl rfl rfl rfl, .v rfl, .v rfl, trivial⟩ ⟨⟨rfl, rfl, fun i j hi _ => .noref (nr_objX _ _)⟩, trivial⟩ rfl) fun k hj => ?_
  conv => whnf
  refine br (fun h => ?_) (fun h => ?_)
  · have hk : k < l.length := by have := of_decide_eq_true h; omega
    have hp := objOk_pages (ho _ (getD_mem (d := d0 .obj) hk))
    have ht := held_take ho k (by omega)
    have e : held (l.take (k + 1)) = held (l.take k) + (l.getD k (d0 .obj)).pages := by
      unfold held
      rw [foldl_take2 _ _ _ _ (d0 .obj) hk]
    conv => whnf
    refine side_lt hk ?_
    conv => whnf
    refine side_lt (by simp only [Nat.zero_add]; exact hk) ?_
    conv => whnf
    refine ⟨k + 1, hk, by omega, ?_⟩
    refine GS.lists ⟨.v (congrArg _ ?_), .ref rfl rfl rfl rfl rfl, .v rfl, .v (congrArg _ (wrap_nat k (by omega))), trivial⟩ ⟨⟨rfl, rfl, fun i j hi hj => .noref (nr_objX _ _)⟩, trivial⟩ rfl
    simp only [Nat.zero_add]
    rw [e, wrap_in (by omega)]
  · have hk : k = l.length := by have := of_decide_eq_false h; omega
    subst hk
    rw [List.take_length]
    conv => whnf
    exact ⟨rfl, True.intro⟩

end Go.Proofs.YtiimdlkeikcfiaaGreat.V

namespace Go.Proofs.YtiimdlkeikcfiaaGreat.V
open Go.RowKit M
set_option maxRecDepth 100000
set_option maxHeartbeats 1000000
theorem runGo_mem {last pick : Int} : ∀ {l : List Int} {a b : Int}, runGo last pick l a b ∈ l ∨ runGo last pick l a b = a ∨ runGo last pick l a b = b
  | [], a, b => by
    unfold runGo
    split
    · exact .inr (.inr rfl)
    · exact .inr (.inl rfl)
  | n :: r, a, b => by
    unfold runGo
    split
    · rcases runGo_mem (last := last) (pick := pick) (l := r) (a := a) (b := b) with h | h
      · exact .inl (List.mem_cons_of_mem _ h)
      · exact .inr h
    split
    · exact .inl List.mem_cons_self
    have key := runGo_mem (last := last) (pick := pick) (l := r) (a := if a < 0 || decide (n < a) then n else a) (b := if decide (last < n) && (decide (b < 0) || decide (n < b)) then n else b)
    rcases key with h | h | h
    · exact .inl (List.mem_cons_of_mem _ h)
    · rw [h]
      split
      · exact .inl List.mem_cons_self
      · exact .inr (.inl rfl)
    · rw [h]
      split
      · exact .inl List.mem_cons_self
      · exact .inr (.inr rfl)
def runI (p : Part) (now : Int) : Int := runNext (runnable p now) p.next (p.want - 1)
theorem runI_in {p : Part} {now : Int} (h : ¬ runI p now < 0) : 0 ≤ runI p now ∧ (runI p now).toNat < p.heap.arena.length := by
  have := runGo_mem (last := p.next) (pick := p.want - 1) (l := runnable p now) (a := -1) (b := -1)
  have e : runI p now = runGo p.next (p.want - 1) (runnable p now) (-1) (-1) := rfl
  rw [← e] at this
  rcases this with hm | hm | hm
  · obtain ⟨_, h1, h2, _⟩ := threads_mem ((List.mem_filter.1 hm).1)
    exact ⟨h1, h2⟩
  · omega
  · omega
theorem arenaOk_obj {l : List Obj} (h : arenaOk l = true) {i : Nat} (hi : i < l.length) : objOk (l.getD i (d0 .obj)) = true := by
  have hl := arenaOk_len h
  simp only [arenaOk, Bool.and_eq_true, List.all_eq_true] at h
  have := h.2 i (by simp; omega)
  simp only [slotOk, slotO, Bool.and_eq_true] at this
  exact this.1.1
theorem objOk_ran {o : Obj} (h : objOk o = true) : 0 ≤ o.ran ∧ o.ran ≤ 1000000 := by
  unfold objOk at h
  simp only [Bool.and_eq_true] at h
  have h := h.2
  split at h
  · simp only [sameO, Bool.and_eq_true, beq_iff_eq] at h
    have : o.ran = 0 := by simp_all
    omega
  · simp only [Bool.and_eq_true] at h
    have h := h.2
    split at h
    · simp only [Bool.and_eq_true, inB_iff] at h
      exact h.2
    · simp only [Bool.and_eq_true, beq_iff_eq] at h
      omega
def ranG (p : Part) (i : Int) : Part := ⟨p.label, p.own, (payT p.tree (resOf p (p.heap.arena.getD i.toNat (d0 .obj)).res) (oneA 2 1)).1, ⟨p.heap.arena.set i.toNat (Obj.w8 ((p.heap.arena.getD i.toNat (d0 .obj)).ran + 1) (p.heap.arena.getD i.toNat (d0 .obj))), p.heap.gc⟩, p.taps, i, 0, sumA p.spent (oneA 2 1), p.press, p.lost⟩
def partRun (p : Part) (now : Int) : Part × Int :=
  if partOk p then (if runI p now < 0 then ({ p with want := 0 }, -1) else if p.spent.cpu = 1000000 then ({ p with want := 0 }, -1) else if (p.heap.arena.getD (runI p now).toNat (d0 .obj)).ran = 1000000 then ({ p with want := 0 }, -1) else (ranG p (runI p now), runI p now)) else (p, -1)
theorem PartRun_v (p : Part) (now : Int) (hb : partB p) (hc : partCB p) : VC Tryz.prog 40 [.agg (partA2 p), iA now] (.tup [.agg (partR (partRun p now).1), iA (partRun p now).2]) := by
  by_cases h1 : partOk p = true
  · have eP : partRun p now = (if runI p now < 0 then ({ p with want := 0 }, -1) else if p.spent.cpu = 1000000 then ({ p with want := 0 }, -1) else if (p.heap.arena.getD (runI p now).toNat (d0 .obj)).ran = 1000000 then ({ p with want := 0 }, -1) else (ranG p (runI p now), runI p now)) := if_pos h1
    have hP := h1
    simp only [partOk, Bool.and_eq_true] at hP
    obtain ⟨_, _, _, htr, hh, _, _, hwant, hspent, _, _⟩ := hP
    have hw := inB_iff.1 hwant
    have e1 : IntKind.i64.wrap (p.want - 1) = p.want - 1 := wrap_in (by omega)
    have hln : (runnable p now).length ≤ 1000000000 := by
      have h2 := List.length_filter_le (runAt p) (threads p now)
      have h3 := threads_len p now
      show (List.filter _ _).length ≤ _
      omega
    refine VC.go tiOk vtOk [9,11] Tryz.func40 rfl rfl ?_
    conv => whnf
    refine ⟨_, copyPart_v p hc, ?_⟩
    conv => whnf
    refine ⟨_, PartOk_v p hb, ?_⟩
    conv => whnf
    refine br_f (by rw [h1]; rfl) ?_
    conv => whnf
    refine ⟨_, Runnable_v p now hb, ?_⟩
    conv => whnf
    rw [e1]
    refine ⟨_, RunNext_v (runnable p now) p.next (p.want - 1) hln, ?_⟩
    conv => whnf
    have hin := runI_in (p := p) (now := now)
    generalize hi : runI p now = i at hin eP
    have hi2 : runNext (runnable p now) p.next (p.want - 1) = i := hi
    rw [hi2]
    by_cases h2 : i < 0
    · rw [if_pos h2] at eP
      rw [eP]
      refine br_t (by simpa using h2) ?_
      conv => whnf
      conv => whnf
      repeat (first | (refine ⟨by with_reducible rfl, ?_⟩; conv => whnf) | (refine ⟨rfl, ?_⟩; conv => whnf))
      exact True.intro
    rw [if_neg h2] at eP
    refine br_f (by simpa using h2) ?_
    conv => whnf
    have hin := hin h2
    by_cases h3 : p.spent.cpu = 1000000
    · rw [if_pos h3] at eP
      rw [eP]
      refine br_t (by simpa using h3) ?_
      conv => whnf
      conv => whnf
      repeat (first | (refine ⟨by with_reducible rfl, ?_⟩; conv => whnf) | (refine ⟨rfl, ?_⟩; conv => whnf))
      exact True.intro
    rw [if_neg h3] at eP
    refine br_f (by simpa using h3) ?_
    conv => whnf
    refine idx_of hin.1 ?_
    conv => whnf
    refine side_lt hin.2 ?_
    conv => whnf
    have hro := objOk_ran (arenaOk_obj (partOk_arena h1) hin.2)
    by_cases h4 : (p.heap.arena.getD i.toNat (d0 .obj)).ran = 1000000
    · rw [if_pos h4] at eP
      rw [eP]
      refine br_t (by simpa [offN] using h4) ?_
      conv => whnf
      conv => whnf
      repeat (first | (refine ⟨by with_reducible rfl, ?_⟩; conv => whnf) | (refine ⟨rfl, ?_⟩; conv => whnf))
      exact True.intro
    rw [if_neg h4] at eP
    refine br_f (by simpa [offN] using h4) ?_
    conv => whnf
    refine ⟨_, AmtOne_v 2 1, ?_⟩
    conv => whnf
    refine VW.drw tiOk vtOk rfl ?_
    conv => whnf
    refine idx_of hin.1 ?_
    conv => whnf
    refine side_lt hin.2 ?_
    conv => whnf
    refine ⟨_, ResOf_v p _ (by rw [treeOk_len htr]; decide), ?_⟩
    conv => whnf
    refine ⟨_, TreePay_v p.tree _ (oneA 2 1) (by rw [treeOk_len htr]; decide), ?_⟩
    conv => whnf
    refine ⟨_, sumOf_v p.spent (oneA 2 1) (amtOk_b hspent) (show amtB ⟨0, 0, 1⟩ from ⟨by decide, by decide, by decide⟩), ?_⟩
    conv => whnf
    refine VW.reg tiOk vtOk ?_
    conv => whnf
    repeat' (first | (refine idx_of hin.1 ?_; conv => whnf) | (refine side_lt hin.2 ?_; conv => whnf) | (refine side_le (by (simp [lenW, winL]; omega)) ?_; conv => whnf) | (refine br (fun h => ?_) (fun h => ?_) <;> conv => whnf))
    have e2 : IntKind.i64.wrap ((p.heap.arena.getD i.toNat (d0 .obj)).ran + 1) = (p.heap.arena.getD i.toNat (d0 .obj)).ran + 1 := wrap_in (by omega)
    rw [eP]
    conv => whnf
    repeat (first | (refine ⟨by with_reducible rfl, ?_⟩; conv => whnf) | (refine ⟨congrArg (fun v => p.heap.arena.set i.toNat (Obj.w8 v (p.heap.arena.getD i.toNat (d0 .obj)))) e2, ?_⟩; conv => whnf) | (refine ⟨rfl, ?_⟩; conv => whnf))
    exact True.intro
  · have eP : partRun p now = (p, -1) := if_neg h1
    rw [eP]
    refine VC.go tiOk vtOk [] Tryz.func40 rfl rfl ?_
    conv => whnf
    refine ⟨_, copyPart_v p hc, ?_⟩
    conv => whnf
    refine ⟨_, PartOk_v p hb, ?_⟩
    conv => whnf
    refine br_t (by simpa using h1) ?_
    conv => whnf
    conv => whnf
    repeat (first | (refine ⟨by with_reducible rfl, ?_⟩; conv => whnf) | (refine ⟨rfl, ?_⟩; conv => whnf))
    exact True.intro

end Go.Proofs.YtiimdlkeikcfiaaGreat.V

namespace Go.Proofs.YtiimdlkeikcfiaaGreat.V
open Go.RowKit M
set_option maxRecDepth 100000
set_option maxHeartbeats 1000000
theorem arenaOk_all {l : List Obj} (h : arenaOk l = true) : ∀ o ∈ l, objOk o = true := fun o ho => by
  obtain ⟨i, hi, rfl⟩ := List.getElem_of_mem ho
  have := arenaOk_obj h hi
  rwa [List.getD_eq_getElem?_getD, List.getElem?_eq_getElem hi] at this
def partSum (p : Part) : Amt := sumA ⟨(sumT p.tree).pages + held p.heap.arena, (sumT p.tree).rent, (sumT p.tree).cpu⟩ p.spent
theorem held_b {p : Part} (hok : partOk p = true) : 0 ≤ held p.heap.arena ∧ held p.heap.arena ≤ 80 := by
  have hl := arenaOk_len (partOk_arena hok)
  have := held_take (arenaOk_all (partOk_arena hok)) p.heap.arena.length (Nat.le_refl _)
  rw [List.take_length] at this
  omega
theorem partOk_spent {p : Part} (h : partOk p = true) : amtOk p.spent = true := by
  simp only [partOk, Bool.and_eq_true] at h
  exact h.2.2.2.2.2.2.2.2.1
theorem PartSum_v (p : Part) (hb : partB p) (hok : partOk p = true) : VC Tryz.prog 68 [.agg (partA p)] (.av (.agg (amtC (partSum p)))) := by
  have hs := partOk_spent hok
  have hh := held_b hok
  have ht := sumT_b (t := p.tree)
  have e1 : IntKind.i64.wrap ((sumT p.tree).pages + held p.heap.arena) = (sumT p.tree).pages + held p.heap.arena := wrap_in (by have := ht.1; omega)
  refine VC.go tiOk vtOk [] Tryz.func68 rfl rfl ?_
  conv => whnf
  refine ⟨_, TreeSum_v p.tree (by rw [treeOk_len (partOk_tree hok)]; decide), ?_⟩
  conv => whnf
  refine ⟨_, AmtOk_v p.spent, ?_⟩
  conv => whnf
  refine br_f (by rw [hs]; rfl) ?_
  conv => whnf
  refine ⟨_, Held_v p hb.2.2.2.1 (arenaOk_len (partOk_arena hok)) (arenaOk_all (partOk_arena hok)), ?_⟩
  conv => whnf
  rw [e1]
  refine ⟨_, sumOf_v ⟨(sumT p.tree).pages + held p.heap.arena, (sumT p.tree).rent, (sumT p.tree).cpu⟩ p.spent (by obtain ⟨g1, g2, g3⟩ := ht; exact ⟨by simp only; omega, by simp only; omega, by simp only; omega⟩) (amtOk_b hs), ?_⟩
  conv => whnf
  conv => whnf
  repeat (first | (refine ⟨by with_reducible rfl, ?_⟩; conv => whnf) | (refine ⟨rfl, ?_⟩; conv => whnf))
  exact True.intro
def worldOk1 (now : Int) (p : Part) : Bool := inB now 0 1000000 && (partOk p && amtOk (sumA ⟨0, 0, 0⟩ (partSum p)))
theorem partSum_b {p : Part} (hok : partOk p = true) : amtB (partSum p) := by
  have hs := partOk_spent hok
  have hh := held_b hok
  obtain ⟨g1, g2, g3⟩ := sumT_b (t := p.tree)
  simp only [amtOk, Bool.and_eq_true, inB_iff] at hs
  obtain ⟨⟨h1, h2⟩, h3⟩ := hs
  exact ⟨by simp only [partSum, sumA]; omega, by simp only [partSum, sumA]; omega, by simp only [partSum, sumA]; omega⟩
theorem WorldOk_v (now : Int) (p : Part) (hb : partB p) : VC Tryz.prog 35 [.agg [iV now, .ro .part [p]]] (bR (worldOk1 now p)) := by
  refine VC.go tiOk vtOk [] Tryz.func35 rfl rfl ?_
  conv => whnf
  refine ⟨_, isTime_v now, ?_⟩
  conv => whnf
  refine br (fun h1 => ?_) (fun h1 => ?_)
  · conv => whnf
    exact ⟨congrArg _ (by simp at h1; simp [worldOk1, h1]), True.intro⟩
  have h1 : inB now 0 1000000 = true := by simpa using h1
  conv => whnf
  refine ⟨_, within_v _ _ _, ?_⟩
  conv => whnf
  by_cases hp : partOk p = true
  · have e : worldOk1 now p = amtOk (sumA ⟨0, 0, 0⟩ (partSum p)) := by simp [worldOk1, h1, hp]
    rw [e]
    have hpb := partSum_b hp
    refine goV_loop tiOk vtOk [] (fun b : Bool => stV 35 [(1, .av (.one (.ptr [1] 0 0))), (2, .av (.one (bV false))), (3, .av (.one (.ptr [3] 0 0))), (19, .av (.one (.ro .part [p]))), (20, .av (.one (iV 1))), (21, .av (.one (iV (bif b then 1 else 0))))] [(1, some (.box [iV now, .ro .part [p]])), (3, some (.box (amtC (bif b then sumA ⟨0, 0, 0⟩ (partSum p) else ⟨0, 0, 0⟩))))]) (fun _ => True) (fun b => bif b then 0 else 1) false trivial rfl ?_ fun b hj => ?_
    · conv => whnf
      repeat (first | (refine ⟨by with_reducible rfl, ?_⟩; conv => whnf) | (refine ⟨rfl, ?_⟩; conv => whnf))
      exact True.intro
    cases b
    · conv => whnf
      refine ⟨_, PartOk_v p hb, ?_⟩
      conv => whnf
      refine br_f (by rw [hp]; rfl) ?_
      conv => whnf
      refine ⟨_, PartSum_v p hb hp, ?_⟩
      conv => whnf
      refine ⟨_, sumOf_v ⟨0, 0, 0⟩ (partSum p) ⟨by decide, by decide, by decide⟩ hpb, ?_⟩
      conv => whnf
      refine ⟨true, trivial, by decide, rfl, ?_⟩
      conv => whnf
      repeat (first | (refine ⟨by with_reducible rfl, ?_⟩; conv => whnf) | (refine ⟨rfl, ?_⟩; conv => whnf))
      exact True.intro
    · conv => whnf
      refine ⟨_, AmtOk_v (sumA ⟨0, 0, 0⟩ (partSum p)), ?_⟩
      conv => whnf
      conv => whnf
      repeat (first | (refine ⟨by with_reducible rfl, ?_⟩; conv => whnf) | (refine ⟨rfl, ?_⟩; conv => whnf))
      exact True.intro
  · have e : worldOk1 now p = false := by simp [worldOk1, hp]
    rw [e]
    refine goV_loop tiOk vtOk [] (fun b : Bool => stV 35 [(1, .av (.one (.ptr [1] 0 0))), (2, .av (.one (bV false))), (3, .av (.one (.ptr [3] 0 0))), (19, .av (.one (.ro .part [p]))), (20, .av (.one (iV 1))), (21, .av (.one (iV 0)))] [(1, some (.box [iV now, .ro .part [p]])), (3, some (.box (amtC ⟨0, 0, 0⟩)))]) (fun _ => True) (fun b => 0) false trivial rfl ?_ fun b hj => ?_
    · conv => whnf
      repeat (first | (refine ⟨by with_reducible rfl, ?_⟩; conv => whnf) | (refine ⟨rfl, ?_⟩; conv => whnf))
      exact True.intro
    conv => whnf
    refine ⟨_, PartOk_v p hb, ?_⟩
    conv => whnf
    refine br_t (by simpa using hp) ?_
    conv => whnf
    conv => whnf
    repeat (first | (refine ⟨by with_reducible rfl, ?_⟩; conv => whnf) | (refine ⟨rfl, ?_⟩; conv => whnf))
    exact True.intro

end Go.Proofs.YtiimdlkeikcfiaaGreat.V

namespace Go.Proofs.YtiimdlkeikcfiaaGreat.V
open Go.RowKit M
set_option maxRecDepth 100000
set_option maxHeartbeats 1000000
theorem sArenaOk_v (l : List Obj) (hb : arenaB l) (hok : arenaOk l = true) : VC Tryz.prog 26 [.one (.ro .obj l)] (bR true) := by
  have hl := arenaOk_len hok
  have hok0 := hok
  simp only [arenaOk, Bool.and_eq_true, decide_eq_true_eq, beq_iff_eq, List.all_eq_true] at hok
  obtain ⟨⟨⟨⟨_, g1⟩, g2⟩, g3⟩, g4⟩ := hok
  have h0 : 0 < l.length := by omega
  refine VC.go tiOk vtOk [] Tryz.func26 rfl rfl ?_
  conv => whnf
  refine br_f (by rw [hl]; rfl) ?_
  conv => whnf
  refine side_lt h0 ?_
  conv => whnf
  refine br_f (by simpa [offN] using g1) ?_
  conv => whnf
  refine side_lt h0 ?_
  conv => whnf
  refine br_f (by simpa [offN] using g2) ?_
  conv => whnf
  refine side_lt h0 ?_
  conv => whnf
  refine br_f (by simpa [offN] using g3) ?_
  conv => whnf
  refine goV_loop tiOk vtOk [] (fun k : Nat => stV 102 [(0, .av (.one (.ro .obj l))), (2, .av (.one (bV false))), (3, .av (.one (iV k)))] []) (fun k => k ≤ l.length) (fun k => l.length - k) 0 (Nat.zero_le _) rfl ?_ fun k hj => ?_
  · conv => whnf
    repeat (first | (refine ⟨by with_reducible rfl, ?_⟩; conv => whnf) | (refine ⟨rfl, ?_⟩; conv => whnf))
    exact True.intro
  conv => whnf
  refine br (fun h => ?_) (fun h => ?_)
  · have hk : k < l.length := by simpa using h
    have hs : slotO l k (l.getD k (d0 .obj)) = true := g4 k (by simp; omega)
    obtain ⟨ho, hw⟩ := hb.2 _ (getD_mem (d := d0 .obj) hk)
    have hoo := arenaOk_obj hok0 hk
    have hin := objOk_kind hoo
    have hlk := objOk_links hoo
    simp only [slotO, Bool.and_eq_true, Bool.not_eq_true', List.all_eq_true] at hs
    obtain ⟨⟨_, hs1⟩, hs2⟩ := hs
    conv => whnf
    refine side_lt hk ?_
    conv => whnf
    refine ⟨_, sObjOk_v _ ho hw hoo, ?_⟩
    conv => whnf
    have hin3 : (l.getD k (d0 .obj)).kind ≠ 0 → 0 ≤ (l.getD k (d0 .obj)).inn → (l.getD k (d0 .obj)).inn.toNat < l.length := fun e e2 => by have := (hin e).1; omega
    have hL : (l.getD k (d0 .obj)).links.length ≤ 1000000000 := ho.1
    clear hin hw ho
    repeat' (first | (refine side_lt hk ?_; conv => whnf) | (refine side_lt (hin3 (by simp [offN] at *; omega) (by simp [offN] at *; omega)) ?_; conv => whnf) | (refine idx_of (by simp [offN] at *; omega) ?_; conv => whnf) | (refine side_le (by (simp [lenW, winL]; omega)) ?_; conv => whnf) | (refine br (fun h => ?_) (fun h => ?_) <;> conv => whnf))
    all_goals first
      | (exfalso; clear hs2 hlk g4 hb hin3; simp_all [kindAt, offN]; done)
      | skip
    all_goals
      clear hs1 hin3
      refine goV_loop tiOk vtOk [] (fun k2 : Nat => stV 102 [(0, .av (.one (.ro .obj l))), (2, .av (.one (bV false))), (3, .av (.one (iV k))), (4, .av (.one (iV k2)))] []) (fun k2 => k2 ≤ (l.getD k (d0 .obj)).links.length) (fun k2 => (l.getD k (d0 .obj)).links.length - k2) 0 (Nat.zero_le _) rfl ?_ fun k2 hj => ?_
      focus
        conv => whnf
        repeat (first | (refine ⟨by with_reducible rfl, ?_⟩; conv => whnf) | (refine ⟨rfl, ?_⟩; conv => whnf))
        exact True.intro
      conv => whnf
      refine side_lt hk ?_
      conv => whnf
      refine br (fun h => ?_) (fun h => ?_)
      focus
        have hk2 : k2 < (l.getD k (d0 .obj)).links.length := by simpa [offN] using h
        have hx := hs2 _ (getD_mem (d := (0 : Int)) hk2)
        have hq : inB ((l.getD k (d0 .obj)).links.getD k2 (0 : Int)) (-1) 9 = true := List.all_eq_true.1 hlk _ (getD_mem hk2)
        have hq3 : 0 ≤ (l.getD k (d0 .obj)).links.getD k2 (0 : Int) → ((l.getD k (d0 .obj)).links.getD k2 (0 : Int)).toNat < l.length := fun e => by have := (inB_iff.1 hq).2; omega
        conv => whnf
        refine side_lt hk ?_
        conv => whnf
        refine side_lt hk2 ?_
        conv => whnf
        generalize hqe : (l.getD k (d0 .obj)).links.getD k2 (0 : Int) = q at hx hq hq3
        by_cases hq0 : 0 ≤ q
        · have hx2 : (l.getD q.toNat (d0 .obj)).kind ≠ 0 := by
            intro e
            have e2 : kindAt l q = 0 := e
            rw [e2] at hx
            simp [hq0] at hx
          refine br_t (by simpa using hq0) ?_
          conv => whnf
          refine idx_of hq0 ?_
          conv => whnf
          refine side_lt (hq3 hq0) ?_
          conv => whnf
          refine br_f (by simpa [offN] using hx2) ?_
          conv => whnf
          refine ⟨k2 + 1, hk2, by omega, rfl, ?_⟩
          conv => whnf
          repeat (first | (refine ⟨by with_reducible rfl, ?_⟩; conv => whnf) | (refine ⟨congrArg _ (wrap_nat k2 (by omega)), ?_⟩; conv => whnf) | (refine ⟨rfl, ?_⟩; conv => whnf))
          exact True.intro
        · refine br_f (by simpa using hq0) ?_
          conv => whnf
          refine ⟨k2 + 1, hk2, by omega, rfl, ?_⟩
          conv => whnf
          repeat (first | (refine ⟨by with_reducible rfl, ?_⟩; conv => whnf) | (refine ⟨congrArg _ (wrap_nat k2 (by omega)), ?_⟩; conv => whnf) | (refine ⟨rfl, ?_⟩; conv => whnf))
          exact True.intro
      conv => whnf
      refine ⟨k + 1, hk, by omega, rfl, ?_⟩
      conv => whnf
      repeat (first | (refine ⟨by with_reducible rfl, ?_⟩; conv => whnf) | (refine ⟨congrArg _ (wrap_nat k (by omega)), ?_⟩; conv => whnf) | (refine ⟨rfl, ?_⟩; conv => whnf))
      exact True.intro
  · conv => whnf
    conv => whnf
    repeat (first | (refine ⟨by with_reducible rfl, ?_⟩; conv => whnf) | (refine ⟨rfl, ?_⟩; conv => whnf))
    exact True.intro
theorem sEdges_v (l : List Obj) (i : Nat) (hb : arenaB l) (hok : arenaOk l = true) (hi : i < l.length) (hk0 : (l.getD i (d0 .obj)).kind ≠ 0) : VC Tryz.prog 61 [.one (.ro .obj l), iA i] (.av (.one (.own .i64 true (edgesN l i l.length) []))) := by
  have hl := arenaOk_len hok
  have hlk := (hb.2 _ (getD_mem (d := d0 .obj) hi)).1.1
  refine VC.go tiOk vtOk [] Tryz.func61 rfl rfl ?_
  conv => whnf
  refine ⟨_, sArenaOk_v l hb hok, ?_⟩
  conv => whnf
  refine ⟨_, l8Slot_v i, ?_⟩
  conv => whnf
  refine br_f (by rw [show inB (i : Int) 0 9 = true from inB_iff.2 (by omega)]; rfl) ?_
  conv => whnf
  refine side_lt hi ?_
  conv => whnf
  refine br_f (by simpa [offN] using hk0) ?_
  conv => whnf
  refine goV_loop tiOk vtOk [] (fun k : Nat => stV 72 [(0, .av (.one (.ro .obj l))), (1, .av (iA i)), (4, .av (.one (.sc (.slice none 0 0)))), (5, .av (.one (.ref [7] .i64 none))), (6, .av (.one (iV k)))] [(7, some (.rows .i64 true (edgesN l i k) []))]) (fun k => k ≤ l.length) (fun k => l.length - k) 0 (Nat.zero_le _) rfl ?_ fun k hj => ?_
  · conv => whnf
    repeat (first | (refine ⟨by with_reducible rfl, ?_⟩; conv => whnf) | (refine ⟨rfl, ?_⟩; conv => whnf))
    exact True.intro
  conv => whnf
  refine br (fun h => ?_) (fun h => ?_)
  · have hk : k < l.length := by simpa using h
    have hle := edgesN_len l i k
    have he : edgeAt l i k = ((decide ((0 : Int) < k) && (l.getD k (d0 .obj)).kind != 0 && (l.getD k (d0 .obj)).inn == (i : Int) && (l.getD i (d0 .obj)).kind == 1) || (l.getD i (d0 .obj)).links.contains (k : Int)) := by simp [edgeAt]
    clear hb hok
    conv => whnf
    by_cases hed : edgeAt l i k = true
    · repeat' (first | (refine side_lt hk ?_; conv => whnf) | (refine side_lt hi ?_; conv => whnf) | (refine ⟨_, l4Has_v _ _ hlk, ?_⟩; conv => whnf) | (refine side_le (by (simp [lenW, winL]; omega)) ?_; conv => whnf) | (refine br (fun h => ?_) (fun h => ?_) <;> conv => whnf))
      all_goals first
        | (exfalso; rw [he] at hed; clear hlk hle hi he hk0 hl hj; simp_all [offN]; done)
        | (refine ⟨k + 1, hk, by omega, rfl, ?_⟩; rw [edgesN_succ, if_pos hed]; (conv => whnf); (repeat (first | (refine ⟨by with_reducible rfl, ?_⟩; conv => whnf) | (refine ⟨congrArg _ (wrap_nat k (by omega)), ?_⟩; conv => whnf) | (refine ⟨rfl, ?_⟩; conv => whnf))); exact True.intro)
    · repeat' (first | (refine side_lt hk ?_; conv => whnf) | (refine side_lt hi ?_; conv => whnf) | (refine ⟨_, l4Has_v _ _ hlk, ?_⟩; conv => whnf) | (refine side_le (by (simp [lenW, winL]; omega)) ?_; conv => whnf) | (refine br (fun h => ?_) (fun h => ?_) <;> conv => whnf))
      all_goals first
        | (exfalso; rw [he] at hed; clear hlk hle hi he hk0 hl hj; simp_all [offN]; done)
        | (refine ⟨k + 1, hk, by omega, rfl, ?_⟩; rw [edgesN_succ, if_neg hed]; (conv => whnf); (repeat (first | (refine ⟨by with_reducible rfl, ?_⟩; conv => whnf) | (refine ⟨congrArg _ (wrap_nat k (by omega)), ?_⟩; conv => whnf) | (refine ⟨rfl, ?_⟩; conv => whnf))); exact True.intro)
  · conv => whnf
    have e : k = l.length := by simp at h; omega
    subst e
    conv => whnf
    repeat (first | (refine ⟨by with_reducible rfl, ?_⟩; conv => whnf) | (refine ⟨rfl, ?_⟩; conv => whnf))
    exact True.intro

end Go.Proofs.YtiimdlkeikcfiaaGreat.V

namespace Go.Proofs.YtiimdlkeikcfiaaGreat.V
open Go.RowKit M
set_option maxRecDepth 100000
set_option maxHeartbeats 1000000
def srow (l : List Obj) (now : Int) (r : List Bool) (e : Int) : List Bool := if expired (l.getD e.toNat (d0 .obj)) now then r else r.set e.toNat true
def scell (l : List Obj) (now : Int) (r : List Bool) (i : Nat) : List Bool := if !(r.getD i false) || (expired (l.getD i (d0 .obj)) now && decide (0 < i)) then r else (edgesN l i l.length).foldl (srow l now) r
def sround (l : List Obj) (now : Int) (r : List Bool) (_n : Nat) : List Bool := (List.range 10).foldl (scell l now) r
def sreach (l : List Obj) (now : Int) : List Bool := (List.range 10).foldl (sround l now) reach0
theorem srow_len {l : List Obj} {now : Int} : ∀ (es : List Int) (r : List Bool), (es.foldl (srow l now) r).length = r.length
  | [], r => rfl
  | e :: es, r => by
    rw [List.foldl_cons, srow_len es]
    unfold srow
    split
    · rfl
    · exact List.length_set
theorem scell_len {l : List Obj} {now : Int} : ∀ (es : List Nat) (r : List Bool), (es.foldl (scell l now) r).length = r.length
  | [], r => rfl
  | e :: es, r => by
    rw [List.foldl_cons, scell_len es]
    unfold scell
    split
    · rfl
    · exact srow_len _ _
theorem sround_len {l : List Obj} {now : Int} : ∀ (es : List Nat) (r : List Bool), (es.foldl (sround l now) r).length = r.length
  | [], r => rfl
  | e :: es, r => by
    rw [List.foldl_cons, sround_len es]
    exact scell_len _ _
theorem range_fold {β : Type} (f : β → Nat → β) (a : β) (k : Nat) : (List.range (k + 1)).foldl f a = f ((List.range k).foldl f a) k := by
  rw [List.range_succ, List.foldl_append]; rfl
theorem sReach_v (l : List Obj) (now : Int) (hb : arenaB l) (hok : arenaOk l = true) : VC Tryz.prog 31 [.one (.ro .obj l), iA now] (.av (.one (.own .bool true (sreach l now) []))) := by
  have hl := arenaOk_len hok
  refine VC.go tiOk vtOk [] Tryz.func31 rfl rfl ?_
  conv => whnf
  refine ⟨_, sArenaOk_v l hb hok, ?_⟩
  conv => whnf
  refine goV_loop tiOk vtOk [] (fun k : Nat => stV 71 [(0, .av (.one (.ro .obj l))), (1, .av (iA now)), (5, .av (.one (.ref [15] .bool none))), (6, .av (.one (iV k)))] [(15, some (.rows .bool true ((List.range k).foldl (sround l now) reach0) []))]) (fun k => k ≤ 10) (fun k => 10 - k) 0 (Nat.zero_le _) rfl ?_ fun k hj => ?_
  · conv => whnf
    repeat (first | (refine ⟨by with_reducible rfl, ?_⟩; conv => whnf) | (refine ⟨rfl, ?_⟩; conv => whnf))
    exact True.intro
  conv => whnf
  refine br (fun h => ?_) (fun h => ?_)
  · have hk : k < 10 := by have := of_decide_eq_true h; omega
    have hrl : ((List.range k).foldl (sround l now) reach0).length = 10 := by rw [sround_len]; rfl
    have hstep := range_fold (sround l now) reach0 k
    generalize (List.range k).foldl (sround l now) reach0 = r at hrl hstep ⊢
    conv => whnf
    refine goV_loop tiOk vtOk [] (fun k2 : Nat => stV 71 [(0, .av (.one (.ro .obj l))), (1, .av (iA now)), (5, .av (.one (.ref [15] .bool none))), (6, .av (.one (iV k))), (7, .av (.one (iV k2)))] [(15, some (.rows .bool true ((List.range k2).foldl (scell l now) r) []))]) (fun k2 => k2 ≤ l.length) (fun k2 => l.length - k2) 0 (Nat.zero_le _) rfl ?_ fun k2 hj2 => ?_
    · conv => whnf
      repeat (first | (refine ⟨by with_reducible rfl, ?_⟩; conv => whnf) | (refine ⟨rfl, ?_⟩; conv => whnf))
      exact True.intro
    conv => whnf
    refine br (fun h2 => ?_) (fun h2 => ?_)
    · have hk2 : k2 < l.length := by simpa using h2
      have hrl2 : ((List.range k2).foldl (scell l now) r).length = 10 := by rw [scell_len]; exact hrl
      have hstep2 := range_fold (scell l now) r k2
      generalize (List.range k2).foldl (scell l now) r = r2 at hrl2 hstep2 ⊢
      have hk3 : k2 < r2.length := by omega
      by_cases hc : (!(r2.getD k2 false) || (expired (l.getD k2 (d0 .obj)) now && decide (0 < k2))) = true
      · have e : scell l now r2 k2 = r2 := if_pos hc
        rw [e] at hstep2
        conv => whnf
        repeat' (first | (refine side_lt hk2 ?_; conv => whnf) | (refine side_lt hk3 ?_; conv => whnf) | (refine ⟨_, sExpired_v _ now, ?_⟩; conv => whnf) | (refine side_le (by (simp [lenW, winL]; omega)) ?_; conv => whnf) | (refine br (fun h => ?_) (fun h => ?_) <;> conv => whnf))
        all_goals first
          | (exfalso; clear hb hok hl hstep hstep2 hrl hrl2 hk2 hk3 hj hj2; simp_all [offN, d0b]; done)
          | (refine ⟨k2 + 1, hk2, by omega, rfl, ?_⟩; rw [hstep2]; (conv => whnf); (repeat (first | (refine ⟨by with_reducible rfl, ?_⟩; conv => whnf) | (refine ⟨congrArg _ (wrap_nat k2 (by omega)), ?_⟩; conv => whnf) | (refine ⟨rfl, ?_⟩; conv => whnf))); exact True.intro)
      · have e : scell l now r2 k2 = (edgesN l k2 l.length).foldl (srow l now) r2 := if_neg hc
        rw [e] at hstep2
        have hkind : (l.getD k2 (d0 .obj)).kind ≠ 0 := by
          rcases Nat.eq_zero_or_pos k2 with h0 | h0
          · subst h0
            simp only [arenaOk, Bool.and_eq_true, decide_eq_true_eq, beq_iff_eq] at hok
            rw [hok.1.1.1.2]; decide
          · intro e2
            exact hc (by rw [Bool.or_eq_true]; right; simp only [expired, e2]; simp [h0])
        conv => whnf
        repeat' (first | (refine side_lt hk2 ?_; conv => whnf) | (refine side_lt hk3 ?_; conv => whnf) | (refine ⟨_, sExpired_v _ now, ?_⟩; conv => whnf) | (refine ⟨_, sEdges_v l k2 hb hok hk2 hkind, ?_⟩; conv => whnf) | (refine side_le (by (simp [lenW, winL]; omega)) ?_; conv => whnf) | (refine br (fun h => ?_) (fun h => ?_) <;> conv => whnf))
        all_goals first
          | (exfalso; clear hb hok hl hstep hstep2 hrl hrl2 hk2 hk3 hj hj2 hkind; simp_all [offN, d0b]; done)
          | skip
        all_goals
          have hel := edgesN_len l (k2 : Int) l.length
          have hem : ∀ e, e ∈ edgesN l (k2 : Int) l.length → 0 ≤ e ∧ e < (l.length : Int) := fun e he => edgesN_mem he
          generalize edgesN l (k2 : Int) l.length = es at hel hem hstep2 ⊢
          refine goV_loop tiOk vtOk [] (fun j : Nat => stV 71 [(0, .av (.one (.ro .obj l))), (1, .av (iA now)), (5, .av (.one (.ref [15] .bool none))), (6, .av (.one (iV k))), (7, .av (.one (iV k2))), (8, .av (.one (.ref [10047] .i64 none))), (9, .av (.one (iV j)))] [(15, some (.rows .bool true ((es.take j).foldl (srow l now) r2) [])), (10047, some (.rows .i64 true es []))]) (fun j => j ≤ es.length) (fun j => es.length - j) 0 (Nat.zero_le _) rfl ?_ fun j hj3 => ?_
          focus
            conv => whnf
            repeat (first | (refine ⟨by with_reducible rfl, ?_⟩; conv => whnf) | (refine ⟨rfl, ?_⟩; conv => whnf))
            exact True.intro
          conv => whnf
          refine br (fun h => ?_) (fun h => ?_)
          focus
            have hj4 : j < es.length := by simpa using h
            have hm := hem _ (getD_mem (d := (0 : Int)) hj4)
            have hl3 : ((es.take j).foldl (srow l now) r2).length = 10 := by rw [srow_len]; exact hrl2
            have hs3 := foldl_take2 (srow l now) r2 es j (0 : Int) hj4
            generalize (es.take j).foldl (srow l now) r2 = r3 at hl3 hs3 ⊢
            conv => whnf
            refine side_lt hj4 ?_
            conv => whnf
            generalize hqe : es.getD j (0 : Int) = q at hm hs3
            have hqe2 : es.getD (offW none j) (d0 .i64) = q := hqe
            have hql : q.toNat < l.length := by omega
            have hqr : q.toNat < r3.length := by omega
            rw [hqe2]
            refine idx_of hm.1 ?_
            conv => whnf
            refine side_lt hql ?_
            conv => whnf
            refine ⟨_, sExpired_v _ now, ?_⟩
            conv => whnf
            by_cases hx : expired (l.getD q.toNat (d0 .obj)) now = true
            · have e4 : srow l now r3 q = r3 := if_pos hx
              rw [e4] at hs3
              refine br_f (by rw [show expired (l.getD q.toNat (d0 .obj)) now = true from hx]; rfl) ?_
              conv => whnf
              refine ⟨j + 1, hj4, by omega, rfl, ?_⟩
              rw [hs3]
              conv => whnf
              repeat (first | (refine ⟨by with_reducible rfl, ?_⟩; conv => whnf) | (refine ⟨congrArg _ (wrap_nat j (by omega)), ?_⟩; conv => whnf) | (refine ⟨rfl, ?_⟩; conv => whnf))
              exact True.intro
            · have e4 : srow l now r3 q = r3.set q.toNat true := if_neg hx
              rw [e4] at hs3
              refine br_t (by simpa [offN] using hx) ?_
              conv => whnf
              refine side_lt hj4 ?_
              conv => whnf
              rw [hqe2]
              refine idx_of hm.1 ?_
              conv => whnf
              refine side_lt hqr ?_
              conv => whnf
              refine ⟨j + 1, hj4, by omega, rfl, ?_⟩
              rw [hs3]
              conv => whnf
              repeat (first | (refine ⟨by with_reducible rfl, ?_⟩; conv => whnf) | (refine ⟨congrArg _ (wrap_nat j (by omega)), ?_⟩; conv => whnf) | (refine ⟨rfl, ?_⟩; conv => whnf))
              exact True.intro
          conv => whnf
          have e4 : j = es.length := by simp at h; omega
          refine ⟨k2 + 1, hk2, by omega, rfl, ?_⟩
          rw [hstep2, e4, List.take_length]
          conv => whnf
          repeat (first | (refine ⟨by with_reducible rfl, ?_⟩; conv => whnf) | (refine ⟨congrArg _ (wrap_nat k2 (by omega)), ?_⟩; conv => whnf) | (refine ⟨rfl, ?_⟩; conv => whnf))
          exact True.intro
    · conv => whnf
      have e : k2 = 10 := by simp at h2; omega
      subst e
      refine ⟨k + 1, hk, by omega, rfl, ?_⟩
      rw [hstep]
      conv => whnf
      repeat (first | (refine ⟨by with_reducible rfl, ?_⟩; conv => whnf) | (refine ⟨congrArg _ (wrap_nat k (by omega)), ?_⟩; conv => whnf) | (refine ⟨rfl, ?_⟩; conv => whnf))
      exact True.intro
  · conv => whnf
    have e : k = 10 := by have := of_decide_eq_false h; omega
    subst e
    conv => whnf
    repeat (first | (refine ⟨by with_reducible rfl, ?_⟩; conv => whnf) | (refine ⟨rfl, ?_⟩; conv => whnf))
    exact True.intro
def sgood (l : List Obj) (now part h : Int) : Int :=
  if handlePart h != part then -1 else if (l.getD (handleSlot h).toNat (d0 .obj)).kind == 0 || ((l.getD (handleSlot h).toNat (d0 .obj)).gen != handleGen h || !((sreach l now).getD (handleSlot h).toNat (d0 .bool))) then -1 else handleSlot h
theorem sGoodSlot_v (l : List Obj) (now part x : Int) (hb : arenaB l) (hok : arenaOk l = true) (hh : inB x 0 29999 = true) : VC Tryz.prog 15 [.one (.ro .obj l), iA now, iA part, iA x] (iR (sgood l now part x)) := by
  have hl := arenaOk_len hok
  have hs := handleSlot_in hh
  have hsl : (sreach l now).length = 10 := by unfold sreach; rw [sround_len]; rfl
  refine VC.go tiOk vtOk [4] Tryz.func15 rfl rfl ?_
  conv => whnf
  refine ⟨_, sArenaOk_v l hb hok, ?_⟩
  conv => whnf
  refine ⟨_, l8Handle_v x, ?_⟩
  conv => whnf
  refine br_f (by rw [hh]; rfl) ?_
  conv => whnf
  refine ⟨_, sHandlePart_v x hh, ?_⟩
  conv => whnf
  by_cases h1 : (handlePart x != part) = true
  · have e : sgood l now part x = -1 := if_pos h1
    rw [e]
    refine br_t h1 ?_
    conv => whnf
    conv => whnf
    repeat (first | (refine ⟨by with_reducible rfl, ?_⟩; conv => whnf) | (refine ⟨rfl, ?_⟩; conv => whnf))
    exact True.intro
  have e : sgood l now part x = if (l.getD (handleSlot x).toNat (d0 .obj)).kind == 0 || ((l.getD (handleSlot x).toNat (d0 .obj)).gen != handleGen x || !((sreach l now).getD (handleSlot x).toNat (d0 .bool))) then -1 else handleSlot x := if_neg h1
  refine br_f (by simpa using h1) ?_
  conv => whnf
  refine ⟨_, sHandleSlot_v x hh, ?_⟩
  conv => whnf
  refine VW.drwT tiOk vtOk rfl ?_
  conv => whnf
  generalize handleSlot x = i at hs e ⊢
  have hv := sReach_v l now hb hok
  generalize sreach l now = R at hv e hsl ⊢
  have hi : i.toNat < l.length := by omega
  have hi2 : i.toNat < R.length := by omega
  by_cases h2 : ((l.getD i.toNat (d0 .obj)).kind == 0 || ((l.getD i.toNat (d0 .obj)).gen != handleGen x || !(R.getD i.toNat (d0 .bool)))) = true
  · rw [if_pos h2] at e
    rw [e]
    repeat' (first | (refine idx_of hs.1 ?_; conv => whnf) | (refine side_lt hi ?_; conv => whnf) | (refine side_lt hi2 ?_; conv => whnf) | (refine ⟨_, sHandleGen_v x hh, ?_⟩; conv => whnf) | (refine ⟨_, hv, ?_⟩; conv => whnf) | (refine side_le (by (simp [lenW, winL]; omega)) ?_; conv => whnf) | (refine br (fun h => ?_) (fun h => ?_) <;> conv => whnf))
    all_goals first
      | (exfalso; clear hv hb hok hl e hsl hi hi2 hs; simp_all [offN]; done)
      | skip
    all_goals
      conv => whnf
      repeat (first | (refine ⟨by with_reducible rfl, ?_⟩; conv => whnf) | (refine ⟨rfl, ?_⟩; conv => whnf))
      exact True.intro
  · rw [if_neg h2] at e
    rw [e]
    repeat' (first | (refine idx_of hs.1 ?_; conv => whnf) | (refine side_lt hi ?_; conv => whnf) | (refine side_lt hi2 ?_; conv => whnf) | (refine ⟨_, sHandleGen_v x hh, ?_⟩; conv => whnf) | (refine ⟨_, hv, ?_⟩; conv => whnf) | (refine side_le (by (simp [lenW, winL]; omega)) ?_; conv => whnf) | (refine br (fun h => ?_) (fun h => ?_) <;> conv => whnf))
    all_goals first
      | (exfalso; clear hv hb hok hl e hsl hi hi2 hs; simp_all [offN]; done)
      | skip
    all_goals
      conv => whnf
      repeat (first | (refine ⟨by with_reducible rfl, ?_⟩; conv => whnf) | (refine ⟨rfl, ?_⟩; conv => whnf))
      exact True.intro

end Go.Proofs.YtiimdlkeikcfiaaGreat.V

namespace Go.Proofs.YtiimdlkeikcfiaaGreat.V
open Go.RowKit M
set_option maxRecDepth 100000
set_option maxHeartbeats 1000000
theorem copyWorld1_v (now : Int) (p : Part) (hc : partCB p) : VC Tryz.prog 34 [.agg [iV now, .ro .part [p]]] (.av (.agg [iV now, .own .part true [p] []])) :=
  copyWorld_v ⟨now, [p]⟩ ⟨by show 1 ≤ 1000000000; decide, fun q hq => by rw [List.mem_singleton.1 hq]; exact hc⟩
theorem hasPart1_v (now : Int) (p : Part) : VC Tryz.prog 25 [.agg [iV now, .ro .part [p]], iA 0] (bR true) :=
  hasPart_v ⟨now, [p]⟩ 0 (by show 1 ≤ 1000000000; decide)

end Go.Proofs.YtiimdlkeikcfiaaGreat.V

namespace Go.Proofs.YtiimdlkeikcfiaaGreat.V
open Go.RowKit M
set_option maxRecDepth 100000
set_option maxHeartbeats 1000000
theorem otherPart_v (now : Int) (p : Part) (c : Call) (hk : 1 ≤ c.kind ∧ c.kind ≤ 8 ∧ c.kind ≠ 7) : VC Tryz.prog 53 [.agg [iV now, .ro .part [p]], iA 0, callA c] (iR 0) := by
  refine VC.go tiOk vtOk [] Tryz.func53 rfl rfl ?_
  conv => whnf
  refine br_f (by simp; omega) ?_
  conv => whnf
  refine br_f (by simp; omega) ?_
  conv => whnf
  refine br_f (by simp; omega) ?_
  conv => whnf
  refine ⟨_, hasPart1_v now p, ?_⟩
  conv => whnf
  conv => whnf
  repeat (first | (refine ⟨by with_reducible rfl, ?_⟩; conv => whnf) | (refine ⟨rfl, ?_⟩; conv => whnf))
  exact True.intro
def callP (now : Int) (p : Part) (th : Int) (c : Call) : Part × Int × Int := partCall p 0 now th c
theorem WorldCall_v (now : Int) (p : Part) (th : Int) (c : Call) (hb : partG p) (hd : doK p 0 now c) (hw : worldOk1 now p = true) : VC Tryz.prog 23 [.agg [iV now, .ro .part [p]], iA 0, iA th, callA c] (.tup [.agg [iV now, .own .part true [(callP now p th c).1] []], .agg [iV (callP now p th c).2.1, iV (callP now p th c).2.2]]) := by
  have hk := hd.in
  have hw0 := hw
  simp only [worldOk1, Bool.and_eq_true] at hw
  have eP : callP now p th c = (if canCall p now th then (if (doC p 0 now c).2.1 == 0 then ((doC p 0 now c).1, 0, (doC p 0 now c).2.2)
      else (if c.kind == 1 && ((doC p 0 now c).2.1 == 6 || (doC p 0 now c).2.1 == 7) then pressP p else p, (doC p 0 now c).2.1, 0)) else (p, 1, 0)) :=
    if_pos (by rw [hw.2.1, hw.1]; rfl)
  refine VC.go tiOk vtOk [11,12,13] Tryz.func23 rfl rfl ?_
  conv => whnf
  refine ⟨_, copyWorld1_v now p hb.2.1, ?_⟩
  conv => whnf
  refine ⟨_, WorldOk_v now p hb.1, ?_⟩
  conv => whnf
  refine br_f (by rw [hw0]; rfl) ?_
  conv => whnf
  refine ⟨_, hasPart1_v now p, ?_⟩
  conv => whnf
  refine ⟨_, CanCall_v p now th hb.1, ?_⟩
  conv => whnf
  by_cases h2 : canCall p now th = true
  · refine br_f (by rw [h2]; rfl) ?_
    conv => whnf
    refine ⟨_, otherPart_v now p c hk, ?_⟩
    conv => whnf
    refine br_f (by simp; omega) ?_
    conv => whnf
    refine br_f (by simp; omega) ?_
    conv => whnf
    refine br_f (by simp; omega) ?_
    conv => whnf
    have hv := PartCall_v p 0 now th c hb hd
    have hE : partCall p 0 now th c = callP now p th c := rfl
    rw [hE] at hv
    generalize callP now p th c = R at hv ⊢
    refine VW.drwR tiOk vtOk rfl ?_
    conv => whnf
    refine ⟨_, hv, ?_⟩
    conv => whnf
    refine VW.raw tiOk vtOk ?_
    conv => whnf
    refine VW.ownG 10 1 ?_
    conv => whnf
    refine VW.drw tiOk vtOk rfl ?_
    conv => whnf
    conv => whnf
    repeat (first | (refine ⟨by with_reducible rfl, ?_⟩; conv => whnf) | (refine ⟨rfl, ?_⟩; conv => whnf))
    exact True.intro
  · rw [if_neg h2] at eP
    rw [eP]
    refine br_t (by simpa using h2) ?_
    conv => whnf
    conv => whnf
    repeat (first | (refine ⟨by with_reducible rfl, ?_⟩; conv => whnf) | (refine ⟨rfl, ?_⟩; conv => whnf))
    exact True.intro
def liveN (l : List Obj) : Int := l.foldl (fun s o => if o.kind != 0 then s + 1 else s) 0
theorem liveN_take (l : List Obj) : ∀ k, k ≤ l.length → 0 ≤ liveN (l.take k) ∧ liveN (l.take k) ≤ k
  | 0, _ => by simp [liveN]
  | k + 1, hk => by
    have h1 := liveN_take l k (by omega)
    have e : liveN (l.take (k + 1)) = if (l.getD k (d0 .obj)).kind != 0 then liveN (l.take k) + 1 else liveN (l.take k) := by
      unfold liveN
      rw [foldl_take2 _ _ _ _ (d0 .obj) (by omega)]
    rw [e]
    split <;> omega
theorem LiveCount_v (now : Int) (p : Part) (hb : p.heap.arena.length ≤ 1000000000) : VC Tryz.prog 14 [.agg [iV now, .ro .part [p]], iA 0] (iR (liveN p.heap.arena)) := by
  refine VC.go tiOk vtOk [] Tryz.func14 rfl rfl ?_
  conv => whnf
  refine ⟨_, hasPart1_v now p, ?_⟩
  conv => whnf
  refine goV_loop tiOk vtOk [] (fun k : Nat => stV 32 [(5, .av (.one (iV (liveN (p.heap.arena.take k))))), (19, .av (.one (.ro .obj p.heap.arena))), (20, .av (.one (iV p.heap.arena.length))), (21, .av (.one (iV k)))] []) (fun k => k ≤ p.heap.arena.length) (fun k => p.heap.arena.length - k) 0 (Nat.zero_le _) rfl ?_ fun k hj => ?_
  · conv => whnf
    repeat (first | (refine ⟨by with_reducible rfl, ?_⟩; conv => whnf) | (refine ⟨rfl, ?_⟩; conv => whnf))
    exact True.intro
  conv => whnf
  refine br (fun h => ?_) (fun h => ?_)
  · have hk : k < p.heap.arena.length := by simpa using h
    have hl := liveN_take p.heap.arena k hj
    have e : liveN (p.heap.arena.take (k + 1)) = if (p.heap.arena.getD k (d0 .obj)).kind != 0 then liveN (p.heap.arena.take k) + 1 else liveN (p.heap.arena.take k) := by
      unfold liveN
      rw [foldl_take2 _ _ _ _ (d0 .obj) hk]
    have e1 : IntKind.i64.wrap (liveN (p.heap.arena.take k) + 1) = liveN (p.heap.arena.take k) + 1 := wrap_in (by omega)
    conv => whnf
    refine side_lt hk ?_
    conv => whnf
    by_cases h2 : ((p.heap.arena.getD k (d0 .obj)).kind != 0) = true
    · rw [if_pos h2] at e
      refine br_t (by simpa [offN] using h2) ?_
      conv => whnf
      refine ⟨k + 1, hk, by omega, rfl, ?_⟩
      rw [e]
      conv => whnf
      repeat (first | (refine ⟨by with_reducible rfl, ?_⟩; conv => whnf) | (refine ⟨congrArg _ (wrap_nat k (by omega)), ?_⟩; conv => whnf) | (refine ⟨congrArg _ e1, ?_⟩; conv => whnf) | (refine ⟨rfl, ?_⟩; conv => whnf))
      exact True.intro
    · rw [if_neg h2] at e
      refine br_f (by simpa [offN] using h2) ?_
      conv => whnf
      refine ⟨k + 1, hk, by omega, rfl, ?_⟩
      rw [e]
      conv => whnf
      repeat (first | (refine ⟨by with_reducible rfl, ?_⟩; conv => whnf) | (refine ⟨congrArg _ (wrap_nat k (by omega)), ?_⟩; conv => whnf) | (refine ⟨rfl, ?_⟩; conv => whnf))
      exact True.intro
  · have e : k = p.heap.arena.length := by simp at h; omega
    rw [e, List.take_length]
    conv => whnf
    repeat (first | (refine ⟨by with_reducible rfl, ?_⟩; conv => whnf) | (refine ⟨rfl, ?_⟩; conv => whnf))
    exact True.intro

end Go.Proofs.YtiimdlkeikcfiaaGreat.V

namespace Go.Proofs.YtiimdlkeikcfiaaGreat.V
open Go.RowKit M
set_option maxRecDepth 100000
set_option maxHeartbeats 1000000
theorem sub_encC : ∀ (n : Nat) {t : Ty} (c : CellD (den t)) (x : den t), M.Sub (cleanO (encC n true c x)) (encC n true c x)
  | n, t, .int k g p, x => by cases n <;> exact .refl
  | n, t, .bool g p, x => by cases n <;> exact .refl
  | n, t, .str g p, x => by cases n <;> exact .refl
  | 0, t, .sl t' g p, x => .any
  | n + 1, t, .sl t' g p, x => by
    show M.Sub (.tr true _ _ (fun i j => cleanO (match nth (cells t') j with | some c' => encC n true c' ((g x).getD i (d0 t')) | none => .any))) _
    refine .tr (fun i j _ _ => ?_)
    show M.Sub (cleanO (match nth (cells t') j with | some c' => encC n true c' ((g x).getD i (d0 t')) | none => .any)) (match nth (cells t') j with | some c' => encC n true c' ((g x).getD i (d0 t')) | none => .any)
    cases nth (cells t') j with
    | none => exact .any
    | some c' => exact sub_encC n c' _
theorem sub_row {t : Ty} (l : List (den t)) (i j : Nat) : M.Sub (cleanO (encRow true t l i j)) (encRow true t l i j) := by
  unfold encRow
  cases nth (cells t) j with
  | none => exact .any
  | some c => exact sub_encC 3 c _
end Go.Proofs.YtiimdlkeikcfiaaGreat.V
namespace Go.Proofs.YtiimdlkeikcfiaaGreat.M
open Go.RowKit
def unC (P : Program) (T : TyT) (sp : List Nat) (c : Code) (Q : Exit → St → Prop) (n : Nat) (s : St) : Prop :=
  match n with
  | 0 => False
  | n + 1 => goC P T sp c s (thenC (fun s' => unC P T sp c Q n s') Q)
theorem MW.unroll {P : Program} {T : TyT} (hT : TOk P T) (sp : List Nat) (n : Nat) {c : Code} {s : St} {Q : Exit → St → Prop} (h : unC P T sp c Q n s) : MW P (.loop c) s Q := by
  refine MW.loop (fun n s => unC P T sp c Q n s) (fun n s h => ?_) h
  cases n with
  | zero => exact h.elim
  | succ n =>
    refine (goC_ok hT c h).mono fun e s' hq => ?_
    cases e with
    | normal => exact ⟨n, Nat.lt_succ_self n, hq⟩
    | _ => exact hq
end Go.Proofs.YtiimdlkeikcfiaaGreat.M
namespace Go.Proofs.YtiimdlkeikcfiaaGreat.V
open Go.RowKit M
set_option maxRecDepth 100000
set_option maxHeartbeats 1000000
theorem lt5 {p : Nat → Prop} (h0 : p 0) (h1 : p 1) (h2 : p 2) (h3 : p 3) (h4 : p 4) : ∀ j, j < 5 → p j
  | 0, _ => h0
  | 1, _ => h1
  | 2, _ => h2
  | 3, _ => h3
  | 4, _ => h4
theorem lt2 {p : Nat → Prop} (h0 : p 0) (h1 : p 1) : ∀ j, j < 2 → p j
  | 0, _ => h0
  | 1, _ => h1
theorem PartTaps_v (now : Int) (p : Part) (hb : partB p) (hc : partCB p) (ht : p.taps = []) : VC Tryz.prog 36 [.agg [iV now, .ro .part [p]], iA 0] (.av (.agg [iV now, .own .part true [p] []])) := by
  have : NRL [canA (.agg [iV now, .ro .part [p]]), canA (iA 0)] := ⟨fun m hm => by
    rcases List.mem_cons.1 hm with rfl | hm
    · exact canA_noref _
    · rw [List.mem_singleton.1 hm]; exact canA_noref _⟩
  show TC _ _ [canA (.agg [iV now, .ro .part [p]]), canA (iA 0)] _
  refine TC.goS tiOk [5,20] Tryz.func36 rfl rfl ?_
  conv => whnf
  refine ⟨_, _, copyWorld1_v now p hc, frzL_ok ⟨.agg fun j hj => ?_, trivial⟩, rfl, ?_⟩
  · revert j
    exact lt2 .v .same
  conv => whnf
  refine ⟨_, _, WorldOk_v now p hb, frzL_ok ⟨.agg fun j hj => ?_, trivial⟩, rfl, ?_⟩
  · revert j
    exact lt2 .v .same
  conv => whnf
  refine br (fun h1 => ?_) (fun h1 => ?_)
  · conv => whnf
    refine ⟨rfl, ?_⟩
    conv => whnf
    refine ⟨rfl, Nat.le_refl _, fun i j hi hj => sub_row _ _ _, True.intro⟩
  have hok : worldOk1 now p = true := by simpa using h1
  simp only [worldOk1, Bool.and_eq_true] at hok
  have h5 := treeOk_len (partOk_tree hok.2.1)
  conv => whnf
  refine ⟨_, _, hasPart1_v now p, frzL_ok ⟨.agg fun j hj => ?_, .v, trivial⟩, rfl, ?_⟩
  · revert j
    exact lt2 .v .same
  conv => whnf
  refine MW.gs (st' := stL 75 [(1, .v (.int .i64 0)), (2, .ptr [2] 0 2 0 0), (4, .ptr [4] 0 2 0 0), (5, .ptr [5] 0 2 0 0), (6, .ref [25] 0 1 0 0)] [(2, ⟨2, 1, fun _ j => nthM [.v (.int .i64 now), canC (.ro .part [p])] j⟩), (4, ⟨2, 1, fun _ j => nthM [.v (.int .i64 0), .v (.slice none 0 0)] j⟩), (5, ⟨2, 1, fun _ j => nthM [.v (.int .i64 now), .ref [20014] 0 16 0 1] j⟩), (25, ⟨1, 0, fun _ _ => .any⟩), (20014, ⟨16, 1, encRow true .part [p]⟩)]) (GS.lists ⟨.v rfl, .ptr rfl rfl rfl rfl rfl, .ptr rfl rfl rfl rfl rfl, .ptr rfl rfl rfl rfl rfl, .ref rfl rfl rfl rfl rfl, trivial⟩ ⟨⟨rfl, rfl, fun i j hi hj => ?_⟩, ⟨rfl, rfl, fun i j hi hj => ?_⟩, ⟨rfl, rfl, fun i j hi hj => ?_⟩, ⟨rfl, rfl, fun i j hi hj => ?_⟩, ⟨rfl, rfl, fun i j hi hj => ?_⟩, trivial⟩ rfl) ?_
  · revert j
    exact lt2 (.v rfl) (.noref (can_noref (.ro .part [p])))
  · revert j
    exact lt2 (.v rfl) (.v rfl)
  · obtain rfl : i = 0 := Nat.lt_one_iff.1 hi
    revert j
    exact lt2 (.v rfl) (.ref rfl rfl rfl rfl rfl)
  · exact .any
  · exact .noref (row_noref _ _ _ _)
  refine MW.gs (GS.expl (n := 20014) (i := 0) (j := 2) (d := 778) rfl (by decide) ⟨Nat.lt_succ_self 0, show 2 < 16 by decide, rfl⟩) ?_
  refine MW.reg tiOk ?_
  conv => whnf
  refine MW.unroll tiOk [] 2 ?_
  conv => whnf
  refine MW.unroll tiOk [] 1 ?_
  conv => whnf
  refine br_f (by show decide ((0 : Int) < (p.taps.length : Nat)) = false; rw [ht]; rfl) ?_
  conv => whnf
  refine MW.unroll tiOk [] 2 ?_
  conv => whnf
  refine MW.gs (st' := stL 75 [(4, .ptr [4] 0 2 0 0), (5, .ptr [5] 0 2 0 0)] [(4, ⟨2, 1, fun _ j => nthM [.v (.int .i64 0), .v (.slice none 0 0)] j⟩), (5, ⟨2, 1, fun _ j => nthM [.v (.int .i64 now), .ref [20014] 0 16 0 1] j⟩), (20014, ⟨16, 1, fun i j => bif Nat.beq j 2 then .ref [778] 0 5 0 p.tree.length else encRow true .part [p] i j⟩), (778, ⟨5, p.tree.length, encRow true .res p.tree⟩)]) (GS.lists ⟨.ptr rfl rfl rfl rfl rfl, .ptr rfl rfl rfl rfl rfl, trivial⟩ ⟨⟨rfl, rfl, fun i j hi hj => ?_⟩, ⟨rfl, rfl, fun i j hi hj => ?_⟩, ⟨rfl, rfl, fun i j hi hj => ?_⟩, ⟨rfl, rfl, fun i j hi hj => ?_⟩, trivial⟩ rfl) ?_
  · obtain rfl : i = 0 := Nat.lt_one_iff.1 hi
    revert j
    exact lt2 (.v rfl) (.v rfl)
  · obtain rfl : i = 0 := Nat.lt_one_iff.1 hi
    revert j
    exact lt2 (.v rfl) (.ref rfl rfl rfl rfl rfl)
  · obtain rfl : i = 0 := Nat.lt_one_iff.1 hi
    have nr : ∀ j, NoRef (encRow true .part [p] 0 j) := fun j => row_noref _ _ _ _
    revert j
    refine lt16 (lt13 ?_ ?_ ?_ ?_ ?_ ?_ ?_ ?_ ?_ ?_ ?_ ?_ ?_) ?_ ?_ ?_
    · exact .noref (nr 0)
    · exact .noref (nr 1)
    · exact .ref rfl rfl rfl rfl rfl
    · exact .noref (nr 3)
    · exact .v rfl
    · exact .v rfl
    · exact .v rfl
    · exact .noref (nr 7)
    · exact .noref (nr 8)
    all_goals exact .v rfl
  · revert j
    exact lt5 (.v rfl) (.v rfl) (.v rfl) (.v rfl) (.v rfl)
  refine MW.gs (GS.lay (N := 20014) (m := 778) (p := []) (i := 0) (j := 2) (len := p.tree.length) (by decide) rfl rfl ⟨Nat.lt_succ_self 0, show 2 < 16 by decide, rfl⟩ (Nat.le_refl _)) ?_
  refine MW.gs (st' := stL 75 [(4, .ptr [4] 0 2 0 0), (5, .ptr [5] 0 2 0 0)] [(4, ⟨2, 1, fun _ j => nthM [.v (.int .i64 0), .v (.slice none 0 0)] j⟩), (5, ⟨2, 1, fun _ j => nthM [.v (.int .i64 now), .ref [20014] 0 16 0 1] j⟩), (20014, ⟨16, 1, encRow true .part [p]⟩)]) (GS.lists ⟨.ptr rfl rfl rfl rfl rfl, .ptr rfl rfl rfl rfl rfl, trivial⟩ ⟨⟨rfl, rfl, fun i j hi hj => ?_⟩, ⟨rfl, rfl, fun i j hi hj => ?_⟩, ⟨rfl, rfl, fun i j hi hj => ?_⟩, trivial⟩ rfl) ?_
  · obtain rfl : i = 0 := Nat.lt_one_iff.1 hi
    revert j
    exact lt2 (.v rfl) (.v rfl)
  · obtain rfl : i = 0 := Nat.lt_one_iff.1 hi
    revert j
    exact lt2 (.v rfl) (.ref rfl rfl rfl rfl rfl)
  · obtain rfl : i = 0 := Nat.lt_one_iff.1 hi
    have nr : ∀ j, NoRef (encRow true .part [p] 0 j) := fun j => row_noref _ _ _ _
    revert j
    refine lt16 (lt13 ?_ ?_ ?_ ?_ ?_ ?_ ?_ ?_ ?_ ?_ ?_ ?_ ?_) ?_ ?_ ?_
    · exact reM_noref (nr 0)
    · exact reM_noref (nr 1)
    · refine .tr rfl (fun a c ha hc => ?_)
      revert c
      exact lt5 (.v rfl) (.v rfl) (.v rfl) (.v rfl) (.v rfl)
    · exact reM_noref (nr 3)
    · exact .v rfl
    · exact .v rfl
    · exact .v rfl
    · exact reM_noref (nr 7)
    · exact reM_noref (nr 8)
    all_goals exact .v rfl
  refine MW.reg tiOk ?_
  conv => whnf
  refine ⟨rfl, ?_⟩
  conv => whnf
  exact ⟨rfl, Nat.le_refl _, fun i j hi hj => sub_row _ _ _, True.intro⟩

end Go.Proofs.YtiimdlkeikcfiaaGreat.V

namespace Go.Proofs.YtiimdlkeikcfiaaGreat.V
open Go.RowKit M
set_option maxRecDepth 100000
set_option maxHeartbeats 1000000
def tickP (now : Int) (p : Part) : Part := (partRun (collN (now + 1) p 3).1 (now + 1)).1
structure TickB (now : Int) (p : Part) : Prop where
  g : partG p
  taps : p.taps = []
  press : p.press < 3
  wait : ∀ o ∈ p.heap.arena, o.wait ≤ 0
  lt : now < 1000000
  ok : worldOk1 now p = true
  coll : collB (now + 1) p 3
  g2 : partG (collN (now + 1) p 3).1
theorem Tick_v (now : Int) (p : Part) (hB : TickB now p) : VC Tryz.prog 17 [.agg [iV now, .ro .part [p]]] (.av (.agg [iV (now + 1), .own .part true [tickP now p] []])) := by
  obtain ⟨hg, ht, hp, hw, hn, hk, hcl, hg2⟩ := hB
  have hk0 := hk
  simp only [worldOk1, Bool.and_eq_true] at hk
  have hn0 := inB_iff.1 hk.1
  have e1 : IntKind.i64.wrap (now + 1) = now + 1 := wrap_in (by omega)
  have hc3 : (3 : Int).toNat = 3 := rfl
  refine VC.go tiOk vtOk [5,12,13] Tryz.func17 rfl rfl ?_
  conv => whnf
  refine ⟨_, copyWorld1_v now p hg.2.1, ?_⟩
  conv => whnf
  refine ⟨_, WorldOk_v now p hg.1, ?_⟩
  conv => whnf
  refine br_f (by rw [hk0]; rfl) ?_
  conv => whnf
  refine br_f (by simp; omega) ?_
  conv => whnf
  refine VW.sub (s' := stV 71 [(1, .av (.one (.ptr [1] 0 0))), (2, .av (.one (.ptr [2] 0 0))), (3, .av (.one (.ptr [3] 0 0)))] [(1, some (.box [iV now, .ro .part [p]])), (2, some (.box [iV 0, .sc (.slice none 0 0)])), (3, some (.box [iV (now + 1), .own .part true [p] []]))]) rfl ?_ ?_
  · conv => whnf
    repeat (first | (refine ⟨by with_reducible rfl, ?_⟩; conv => whnf) | (refine ⟨congrArg _ e1, ?_⟩; conv => whnf) | (refine ⟨rfl, ?_⟩; conv => whnf))
    exact True.intro
  have hP : collN (now + 1) p 3 = ((collN (now + 1) p 3).1, (collN (now + 1) p 3).2) := rfl
  have hT : tickP now p = (partRun (collN (now + 1) p 3).1 (now + 1)).1 := rfl
  refine VW.reg tiOk vtOk ?_
  conv => whnf
  refine VW.unroll tiOk vtOk [10,12,13,14] 2 ?_
  conv => whnf
  refine ⟨_, PartTaps_v (now + 1) p hg.1 hg.2.1 ht, ?_⟩
  conv => whnf
  refine ⟨_, PartKill_v p (now + 1) hg.1 hg.2.1 hp, ?_⟩
  conv => whnf
  refine ⟨_, PartWake_v p 0 (now + 1) hg.1 hg.2.1 hw, ?_⟩
  conv => whnf
  refine VW.reg tiOk vtOk ?_
  conv => whnf
  refine ⟨_, PartCollect_v p (now + 1) 3 hg.1 hg.2.1 (by decide) hk.2.1 hcl, ?_⟩
  conv => whnf
  rw [hc3]
  generalize collN (now + 1) p 3 = C at hg2 hT ⊢
  refine br_t (by show ((0 : Int) == (now + 1).tmod 1) = true; rw [Int.tmod_one]; rfl) ?_
  conv => whnf
  have hR := PartRun_v C.1 (now + 1) hg2.1 hg2.2.1
  generalize partRun C.1 (now + 1) = R at hT hR
  refine VW.raw tiOk vtOk ?_
  conv => whnf
  refine ⟨_, hR, ?_⟩
  conv => whnf
  refine VW.raw tiOk vtOk ?_
  conv => whnf
  refine VW.own tiOk vtOk 3 1 ?_
  conv => whnf
  rw [hT]
  conv => whnf
  repeat (first | (refine ⟨by with_reducible rfl, ?_⟩; conv => whnf) | (refine ⟨rfl, ?_⟩; conv => whnf))
  exact True.intro

end Go.Proofs.YtiimdlkeikcfiaaGreat.V

namespace Go.Proofs.YtiimdlkeikcfiaaGreat.V
open Go.RowKit M
set_option maxRecDepth 100000
set_option maxHeartbeats 1000000
theorem Flat_v : VC Tryz.prog 20 [iA 0] (.av (.agg [.own .i64 true [0, 0, 0, 0] []])) := by
  refine VC.go tiOk vtOk [] Tryz.func20 rfl rfl ?_
  conv => whnf
  refine ⟨_, l1In_v 0 0 3, ?_⟩
  conv => whnf
  refine VW.unroll tiOk vtOk [] 5 ?_
  conv => whnf
  repeat (first | (refine side_le (by simp [lenW, winL]) ?_; conv => whnf) | (refine br_f (by simp) ?_; conv => whnf) | (refine br_t (by simp) ?_; conv => whnf))
  conv => whnf
  repeat (first | (refine ⟨by with_reducible rfl, ?_⟩; conv => whnf) | (refine ⟨rfl, ?_⟩; conv => whnf))
  exact True.intro
def richB : List Boot := [⟨[0, 0, 0, 0], [], ⟨50, 9000, 500⟩⟩]
theorem rich_v : VC Tryz.prog 8 [] (.av (.one (.own .boot true richB []))) := by
  refine VC.go tiOk vtOk [] Tryz.func8 rfl rfl ?_
  conv => whnf
  refine ⟨_, Flat_v, ?_⟩
  conv => whnf
  conv => whnf
  repeat (first | (refine ⟨by with_reducible rfl, ?_⟩; conv => whnf) | (refine ⟨rfl, ?_⟩; conv => whnf))
  exact True.intro
def atF (l : List Int) (i : Int) : Int := if i < l.length then l.getD i.toNat 0 else (i * 37 + l.length * 11) % 256
theorem at_v (l : List Int) (i : Int) (hi : 0 ≤ i ∧ i ≤ 1000) (hl : l.length ≤ 1048576) (hb : ∀ x ∈ l, 0 ≤ x ∧ x < 256) : VC Tryz.prog 9 [.one (.ro .u8 l), iA i] (iR (atF l i)) := by
  refine VC.go tiOk vtOk [] Tryz.func9 rfl rfl ?_
  conv => whnf
  by_cases h : i < l.length
  · have e : atF l i = l.getD i.toNat 0 := if_pos h
    rw [e]
    refine br_t (by simpa using h) ?_
    conv => whnf
    refine idx_of hi.1 ?_
    conv => whnf
    refine side_lt (show i.toNat < l.length by omega) ?_
    conv => whnf
    have hm := hb _ (getD_mem (d := (0 : Int)) (show i.toNat < l.length by omega))
    exact ⟨congrArg _ (wrap_in (n := l.getD i.toNat (0 : Int)) (by omega)), True.intro⟩
  · have e : atF l i = (i * 37 + l.length * 11) % 256 := if_neg h
    rw [e]
    refine br_f (by simpa using h) ?_
    conv => whnf
    exact ⟨congrArg _ (by rw [wrap_in (n := i * 37) (by omega), wrap_in (n := (l.length : Int) * 11) (by omega), wrap_in (by omega), Int.tmod_eq_emod_of_nonneg (by omega)]), True.intro⟩
theorem big_v (l : List Int) (hl : l.length ≤ 1048576) : VC Tryz.prog 5 [.one (.ro .u8 l)] (bR false) := by
  refine VC.go tiOk vtOk [] Tryz.func5 rfl rfl ?_
  conv => whnf
  exact ⟨congrArg _ (by simp; omega), True.intro⟩
theorem do_v1 (now : Int) (p : Part) (th : Int) (c : Call) (hb : partG p) (hk : doK p 0 now c) (hw : worldOk1 now p = true) : VC Tryz.prog 11 [.agg [iV now, .ro .part [p]], iA 0, iA th, .one (.ro .call [c])] (.tup [.agg [iV now, .own .part true [(callP now p th c).1] []], .agg [iV (callP now p th c).2.1, iV (callP now p th c).2.2]]) := by
  have hv := WorldCall_v now p th c hb hk hw
  generalize callP now p th c = R at hv ⊢
  refine VC.go tiOk vtOk [] Tryz.func11 rfl rfl ?_
  conv => whnf
  refine VW.unroll tiOk vtOk [] 2 ?_
  conv => whnf
  refine ⟨_, hv, ?_⟩
  conv => whnf
  conv => whnf
  repeat (first | (refine ⟨by with_reducible rfl, ?_⟩; conv => whnf) | (refine ⟨rfl, ?_⟩; conv => whnf))
  exact True.intro
def waitN (now : Int) (p : Part) : Nat → Part
  | 0 => p
  | k + 1 => tickP (now + k) (waitN now p k)
def waitB (now : Int) (p : Part) (n : Nat) : Prop := ∀ k, k < n → TickB (now + k) (waitN now p k)
def waitS (now : Int) (p : Part) (n k : Nat) : VSt := match k with
  | 0 => stV 14 [(1, .av (iA n)), (2, .av (.one (.ptr [2] 0 0))), (4, .av (.one (.ptr [4] 0 0))), (5, .av (.one (iV 0)))] [(2, some (.box [iV now, .ro .part [p]])), (4, some (.box [iV 0, .sc (.slice none 0 0)]))]
  | k + 1 => stV 14 [(1, .av (iA n)), (2, .av (.one (.ptr [2] 0 0))), (4, .av (.one (.ptr [4] 0 0))), (5, .av (.one (iV ((k + 1 : Nat) : Int))))] [(2, some (.box [iV (now + ((k + 1 : Nat) : Int)), .own .part true [waitN now p (k + 1)] []])), (4, some (.box [iV 0, .sc (.slice none 0 0)]))]
theorem wait_v (now : Int) (p : Part) (n : Nat) (h0 : 0 < n) (hn : n ≤ 1000) (hw : waitB now p n) : VC Tryz.prog 6 [.agg [iV now, .ro .part [p]], iA n] (.av (.agg [iV (now + n), .own .part true [waitN now p n] []])) := by
  refine VC.go tiOk vtOk [] Tryz.func6 rfl rfl ?_
  conv => whnf
  refine goV_loop tiOk vtOk [] (fun k : Nat => waitS now p n k) (fun k => k ≤ n) (fun k => n - k) 0 (Nat.zero_le _) rfl ?_ fun k hj => ?_
  · conv => whnf
    repeat (first | (refine ⟨by with_reducible rfl, ?_⟩; conv => whnf) | (refine ⟨rfl, ?_⟩; conv => whnf))
    exact True.intro
  cases k with
  | zero =>
    have ht := hw 0 h0
    have e0 : now + ((0 : Nat) : Int) = now := by omega
    rw [e0] at ht
    have hv := Tick_v now p ht
    have e1 : tickP now p = waitN now p 1 := by show _ = tickP (now + ((0 : Nat) : Int)) p; rw [e0]
    rw [e1] at hv
    conv => whnf
    refine br_t (by simp; omega) ?_
    conv => whnf
    refine ⟨_, hv, ?_⟩
    conv => whnf
    refine ⟨1, h0, by omega, rfl, ?_⟩
    conv => whnf
    repeat (first | (refine ⟨by with_reducible rfl, ?_⟩; conv => whnf) | (refine ⟨rfl, ?_⟩; conv => whnf))
    exact True.intro
  | succ k =>
    have e1 : waitN now p (k + 1 + 1) = tickP (now + ((k + 1 : Nat) : Int)) (waitN now p (k + 1)) := rfl
    by_cases h : k + 1 < n
    · have hv := Tick_v _ _ (hw (k + 1) h)
      rw [← e1] at hv
      have e2 : now + ((k + 1 : Nat) : Int) + 1 = now + ((k + 1 + 1 : Nat) : Int) := by omega
      rw [e2] at hv
      conv => whnf
      refine br_t (by simp; omega) ?_
      conv => whnf
      refine ⟨_, hv, ?_⟩
      conv => whnf
      refine ⟨k + 1 + 1, h, by omega, rfl, ?_⟩
      conv => whnf
      repeat (first | (refine ⟨by with_reducible rfl, ?_⟩; conv => whnf) | (refine ⟨congrArg _ (wrap_nat (k + 1) (by omega)), ?_⟩; conv => whnf) | (refine ⟨rfl, ?_⟩; conv => whnf))
      exact True.intro
    · have e : k + 1 = n := by omega
      subst e
      conv => whnf
      refine br_f (by simp) ?_
      conv => whnf
      conv => whnf
      repeat (first | (refine ⟨by with_reducible rfl, ?_⟩; conv => whnf) | (refine ⟨rfl, ?_⟩; conv => whnf))
      exact True.intro
theorem wait_0 (now : Int) (base : Option Addr) (len cap : Nat) : VC Tryz.prog 6 [.agg [iV now, .sc (.slice base len cap)], iA 0] (.av (.agg [iV now, .sc (.slice base len cap)])) := by
  refine VC.go tiOk vtOk [] Tryz.func6 rfl rfl ?_
  conv => whnf
  refine VW.unroll tiOk vtOk [] 1 ?_
  conv => whnf
  conv => whnf
  repeat (first | (refine ⟨by with_reducible rfl, ?_⟩; conv => whnf) | (refine ⟨rfl, ?_⟩; conv => whnf))
  exact True.intro
theorem wait_same (now : Int) (p : Part) : SC Tryz.prog 6 [canA (.agg [iV now, .ro .part [p]]), canA (iA 0)] 0 := by
  refine ⟨(wait_0 0 none 0 0).fn, fun w cargs G0 hB hsz ha => ?_⟩
  obtain ⟨c0, h0, r0⟩ := ha 0 _ rfl
  obtain ⟨c1, h1, r1⟩ := ha 1 _ rfl
  have r0 : R w G0 [] (.agg 2 (canL [iV now, .ro .part [p]])) c0 := r0
  cases r0 with
  | @agg _ _ _ cs hn g hg hone hr =>
  have k0 := hr 0 (by decide)
  have k1 := hr 1 (by decide)
  have k1 : R w G0 [] (.tr false 16 1 (encRow false .part [p])) (g 1) := k1
  have e0 : g 0 = .int .i64 now := by
    have k0 : R w G0 [] (.v (.int .i64 now)) (g 0) := k0
    generalize g 0 = x at k0
    cases k0
    rfl
  obtain ⟨base, cap, e1⟩ : ∃ base cap, g 1 = .slice base 1 cap := by
    generalize g 1 = x at k1
    cases k1
    exact ⟨_, _, rfl⟩
  refine ((wait_0 now base 1 cap).run w cargs G0 hB hsz (fun i m hm => ?_)).mono fun e w' ⟨c, G', he, hb, hf, hrr⟩ => ⟨c, G', he, ?_, hb, hf⟩
  · match i, hm with
    | 0, hm =>
      injection hm with hm
      subst hm
      refine ⟨_, h0, ?_⟩
      show R w G0 [] (.agg 2 (canL [iV now, .sc (.slice base 1 cap)])) (.agg cs)
      refine .agg hn g hg hone (fun i hi => ?_)
      match i, hi with
      | 0, _ => rw [e0]; exact .v
      | 1, _ => rw [e1]; exact .v
    | 1, hm =>
      injection hm with hm
      subst hm
      exact ⟨c1, h1, r1⟩
  · rw [h0]
    obtain ⟨cs', rfl, hn', hc'⟩ := (show Rr1 w' G' 0 (.agg 2 (canL [iV now, .sc (.slice base 1 cap)])) c from hrr)
    refine congrArg (fun x => some (Value.agg x)) (Array.ext (by rw [hn, hn']) (fun i hi hi' => ?_))
    obtain ⟨u, hu, _, hru⟩ := hc' i (by omega)
    have hgi := hg i (by omega)
    rw [Array.getElem?_eq_getElem hi] at hgi
    rw [Array.getElem?_eq_getElem hi'] at hu
    injection hgi with hgi
    injection hu with hu
    rw [hgi, hu]
    have hi2 : i < 2 := by omega
    match i, hi2 with
    | 0, _ =>
      have hru : RC w' G' [0] (.v (.int .i64 now)) u := hru
      rw [e0]
      cases hru
      rfl
    | 1, _ =>
      have hru : RC w' G' [1] (.v (.slice base 1 cap)) u := hru
      rw [e1]
      cases hru
      rfl

end Go.Proofs.YtiimdlkeikcfiaaGreat.V

namespace Go.Proofs.YtiimdlkeikcfiaaGreat.V
open Go.RowKit M
set_option maxRecDepth 100000
set_option maxHeartbeats 1000000
def lensOk (p : Part) : Bool := decide (p.label.length ≤ 100) && (decide (p.own.length ≤ 100) && decide (p.heap.gc.grey.length ≤ 100))
theorem objOk_objB {o : Obj} (h : objOk o = true) : objB o ∧ -1000000000000 ≤ o.wait ∧ o.wait ≤ 1000000000000 := by
  unfold objOk at h
  simp only [Bool.and_eq_true] at h
  have h := h.2
  split at h
  · simp only [sameO, Bool.and_eq_true, beq_iff_eq, decide_eq_true_eq] at h
    obtain ⟨⟨⟨⟨⟨⟨⟨_, w⟩, _⟩, _⟩, _⟩, h1⟩, h2⟩, h3⟩ := h
    have w : o.wait = 0 := w
    exact ⟨⟨by rw [h1]; decide, by rw [h2]; decide, by rw [h3]; decide⟩, by omega, by omega⟩
  · simp only [Bool.and_eq_true, inB_iff, listsB, decide_eq_true_eq, beq_iff_eq] at h
    obtain ⟨⟨⟨_, hp⟩, hl⟩, hw⟩ := h
    have hw2 : -1000000000000 ≤ o.wait ∧ o.wait ≤ 1000000000000 := by
      split at hw
      · simp only [Bool.and_eq_true, Bool.or_eq_true, beq_iff_eq, inB_iff] at hw; omega
      · simp only [Bool.and_eq_true, beq_iff_eq] at hw; omega
    refine ⟨⟨by rw [hl.1.1.2]; decide, ?_, ?_⟩, hw2⟩
    · have := hl.1.2
      split at this <;> omega
    · have := hl.2
      split at this <;> omega
theorem arenaOk_B {l : List Obj} (h : arenaOk l = true) : arenaB l := ⟨by rw [arenaOk_len h]; decide, fun o ho => objOk_objB (arenaOk_all h o ho)⟩
theorem partG_of {p : Part} (h : partOk p = true) (hl : lensOk p = true) : partG p := by
  have ha := arenaOk_B (partOk_arena h)
  have ht := treeOk_len (partOk_tree h)
  simp only [lensOk, Bool.and_eq_true, decide_eq_true_eq] at hl
  simp only [partOk, Bool.and_eq_true, decide_eq_true_eq] at h
  have htp := h.2.2.2.2.2.1
  refine ⟨⟨by omega, by omega, by omega, ha, by omega, by omega⟩, ?_, by omega⟩
  refine ⟨by omega, by omega, by omega, ha.1, fun t ht => (ha.2 t ht).1, by omega, ?_⟩
  all_goals omega
def heapFit (h : Heap) : Bool := heapOk h && decide (h.gc.grey.length ≤ 100)
theorem heapFit_B {h : Heap} (e : heapFit h = true) : heapB h := by
  simp only [heapFit, Bool.and_eq_true, decide_eq_true_eq] at e
  exact ⟨by omega, arenaOk_B (heapOk_arena e.1)⟩
def collFit (s : Part × Int) : Bool := heapFit s.1.heap && decide (s.1.tree.length ≤ 5)
def tickFit (now : Int) (p : Part) : Bool :=
  decide (now < 1000000) && (worldOk1 now p && (lensOk p && (decide (p.taps.length = 0) && (decide (p.press < 3) && (p.heap.arena.all (fun o => decide (o.wait ≤ 0)) &&
    (collFit (collN (now + 1) p 1) && (collFit (collN (now + 1) p 2) && (partOk (collN (now + 1) p 3).1 && lensOk (collN (now + 1) p 3).1))))))))
theorem tickFit_B {now : Int} {p : Part} (h : tickFit now p = true) : TickB now p := by
  simp only [tickFit, Bool.and_eq_true, decide_eq_true_eq, List.all_eq_true] at h
  obtain ⟨h1, h2, h3, h4, h5, h6, h7, h8, h9, h10⟩ := h
  have hok : partOk p = true := by
    simp only [worldOk1, Bool.and_eq_true] at h2
    exact h2.2.1
  have hg := partG_of hok h3
  refine ⟨hg, List.length_eq_zero_iff.1 h4, h5, h6, h1, h2, fun k hk => ?_, partG_of h9 h10⟩
  simp only [collFit, Bool.and_eq_true, decide_eq_true_eq] at h7 h8
  match k, hk with
  | 0, _ => exact ⟨hg.heap, by have := treeOk_len (partOk_tree hok); show p.tree.length ≤ _; omega⟩
  | 1, _ => exact ⟨heapFit_B h7.1, by omega⟩
  | 2, _ => exact ⟨heapFit_B h8.1, by omega⟩
def waitFit (now : Int) (p : Part) : Nat → Bool
  | 0 => true
  | n + 1 => waitFit now p n && tickFit (now + n) (waitN now p n)
theorem waitFit_B {now : Int} {p : Part} : ∀ {n : Nat}, waitFit now p n = true → waitB now p n
  | 0, _, k, hk => absurd hk (Nat.not_lt_zero k)
  | n + 1, h, k, hk => by
    simp only [waitFit, Bool.and_eq_true] at h
    rcases Nat.lt_succ_iff_lt_or_eq.1 hk with h1 | rfl
    · exact waitFit_B h.1 k h1
    · exact tickFit_B h.2
def callFit (now : Int) (p : Part) : Bool := worldOk1 now p && lensOk p
theorem callFit_B {now : Int} {p : Part} (h : callFit now p = true) : worldOk1 now p = true ∧ partG p := by
  simp only [callFit, Bool.and_eq_true] at h
  refine ⟨h.1, partG_of ?_ h.2⟩
  have := h.1
  simp only [worldOk1, Bool.and_eq_true] at this
  exact this.2.1
def cy0 : Part := partNew ⟨[0, 0, 0, 0], [], ⟨50, 9000, 500⟩⟩
def cyV (a : Nat) : Part := waitN 0 cy0 a
def cyA (a : Nat) : Part × Int × Int := callP a (cyV a) 1 ⟨1, 1, 0, 2, 90, 0⟩
def cyB (a : Nat) : Part × Int × Int := callP a (cyA a).1 1 ⟨1, 1, (cyA a).2.2, 3, 90, 0⟩
def cyC (a : Nat) : Part × Int × Int := callP a (cyB a).1 1 ⟨1, 2, (cyB a).2.2, 1, 90, 0⟩
def cyW (a b : Nat) : Part := waitN a (cyC a).1 b
def cyL (a b : Nat) : Part × Int × Int := callP (a + b) (cyW a b) 1 ⟨2, 0, 0, (cyC a).2.2, 0, 0⟩
def cyK (a b : Nat) (keep : Bool) : Part := bif keep then (cyL a b).1 else cyW a b
def cyM (a b : Nat) (keep : Bool) : Part × Int × Int := callP (a + b) (cyK a b keep) 1 ⟨4, (cyA a).2.2, (cyB a).2.2, 0, 0, 0⟩
def cyD (a b : Nat) (keep : Bool) : Part × Int × Int := callP (a + b) (cyM a b keep).1 1 ⟨5, (cyB a).2.2, 0, 0, 0, 0⟩
def cyE (a b : Nat) (keep : Bool) : Part := waitN (a + b) (cyM a b keep).1 15
def cyFit1 (a : Nat) : Bool := waitFit 0 cy0 a && (callFit a (cyV a) && (callFit a (cyA a).1 && (callFit a (cyB a).1 && inB (cyC a).2.2 0 29999)))
def cyFit2 (a b : Nat) : Bool := waitFit a (cyC a).1 b && callFit (a + b) (cyW a b)
def cyFit3 (a b : Nat) (keep : Bool) : Bool := callFit (a + b) (cyK a b keep) && (callFit (a + b) (cyM a b keep).1 && (waitFit (a + b) (cyM a b keep).1 15 && (partOk (cyE a b keep) && (lensOk (cyE a b keep) &&
  ((cyM a b keep).2.1 == 0 && ((cyD a b keep).2.1 == 4 && (held (cyE a b keep).heap.arena == (bif keep then 1 else 0) && (liveN (cyE a b keep).heap.arena == (bif keep then 3 else 2) &&
  decide (0 ≤ sgood (cyE a b keep).heap.arena (a + b + 15) 0 (cyC a).2.2) == keep))))))))
def cyAll (a : Nat) : Bool := cyFit1 a && (List.range 9).all (fun b => cyFit2 a b && (cyFit3 a b true && cyFit3 a b false))

end Go.Proofs.YtiimdlkeikcfiaaGreat.V

namespace Go.Proofs.YtiimdlkeikcfiaaGreat.V
open Go.RowKit M
set_option maxRecDepth 100000
set_option maxHeartbeats 1000000
/-! ### A part with one thread and one thing with a lease -/
def leO (n : Nat) (D : Int) (m : Bool) : Obj := ⟨1, 2, 0, 0, D, n, 0, 0, 0, m, [-1, -1], List.replicate n 0, []⟩
def leR (m : Bool) : Obj := ⟨0, 1, -1, 0, 1000000, 0, 0, 0, 0, m, [-1, -1], [], []⟩
def leT (r : Int) (m : Bool) : Obj := ⟨1, 4, 0, 0, 1000000, 0, 0, 0, r, m, [-1, -1], [], []⟩
def leZ : Obj := ⟨1, 0, 0, 0, 0, 0, 0, 0, 0, false, [], [], []⟩
def leA (S : Obj) (r : Int) (m0 m1 : Bool) : List Obj := [leR m0, leT r m1, S, d0 .obj, d0 .obj, d0 .obj, d0 .obj, d0 .obj, d0 .obj, d0 .obj]
theorem replicate_all {p : Int → Bool} (hp : p 0 = true) : ∀ n : Nat, (List.replicate n (0 : Int)).all p = true
  | 0 => rfl
  | n + 1 => by rw [List.replicate_succ, List.all_cons, hp, replicate_all hp n]; rfl
theorem leO_ok {n : Nat} {D : Int} {m : Bool} (hn : n ≤ 8) (hD : 0 ≤ D ∧ D ≤ 1000000) : objOk (leO n D m) = true := by
  have h1 := inB_iff.2 hD
  have h2 : inB (n : Int) 0 8 = true := inB_iff.2 (by omega)
  have h3 := replicate_all (p := datOk) rfl n
  simp [objOk, leO, h1, h2, h3, listsB, inB_iff, linkOk]
theorem leT_ok {r : Int} {m : Bool} (hr : 0 ≤ r ∧ r ≤ 1000000) : objOk (leT r m) = true := by
  have h1 := inB_iff.2 hr
  simp [objOk, leT, h1, listsB, inB_iff, linkOk]
theorem leR_ok {m : Bool} : objOk (leR m) = true := by cases m <;> rfl
/-- What is in slot 2: the thing, or nothing any more. -/
def leS (a : Bool) (n : Nat) (D : Int) (m : Bool) : Obj := bif a then leO n D m else leZ
theorem leA_ok {a : Bool} {n : Nat} {D r : Int} {m0 m1 m2 : Bool} (hn : n ≤ 8) (hD : 0 ≤ D ∧ D ≤ 1000000) (hr : 0 ≤ r ∧ r ≤ 1000000) : arenaOk (leA (leS a n D m2) r m0 m1) = true := by
  have o0 : objOk (leR m0) = true := leR_ok
  have o1 : objOk (leT r m1) = true := leT_ok hr
  have o3 : objOk (d0 .obj) = true := rfl
  have hS : objOk (leS a n D m2) = true := by
    cases a
    · rfl
    · exact leO_ok hn hD
  have s0 : slotOk (leA (leS a n D m2) r m0 m1) 0 = true := by unfold slotOk slotO; rw [show (leA (leS a n D m2) r m0 m1).getD 0 (d0 .obj) = leR m0 from rfl, o0]; rfl
  have s1 : slotOk (leA (leS a n D m2) r m0 m1) 1 = true := by unfold slotOk slotO; rw [show (leA (leS a n D m2) r m0 m1).getD 1 (d0 .obj) = leT r m1 from rfl, o1]; rfl
  have s2 : slotOk (leA (leS a n D m2) r m0 m1) 2 = true := by unfold slotOk slotO; rw [show (leA (leS a n D m2) r m0 m1).getD 2 (d0 .obj) = leS a n D m2 from rfl, hS]; cases a <;> rfl
  unfold arenaOk
  rw [show List.range 10 = [0, 1, 2, 3, 4, 5, 6, 7, 8, 9] from rfl]
  simp only [List.all_cons, s0, s1, s2, List.all_nil]
  rfl
/-- How far the collector is. -/
structure Cf where
  a : Bool
  ph : Int
  pt : Int
  grey : List Int
  m0 : Bool
  m1 : Bool
  m2 : Bool
deriving DecidableEq
def leH (c : Cf) (n : Nat) (D r rd : Int) : Heap := ⟨leA (leS c.a n D c.m2) r c.m0 c.m1, ⟨c.ph, c.pt, rd, c.grey⟩⟩
def leB (c : Cf) (n : Nat) (R t : Int) : Amt := ⟨bif c.a then 50 - n else 50, 9000 - R, 500 - t⟩
def leP (c : Cf) (n : Nat) (D R t rd nx : Int) : Part := ⟨[0, 0, 0, 0], [], treeNew (leB c n R t), leH c n D t rd, [], nx, 0, ⟨0, R, t⟩, 0, 0⟩
def cfOk (c : Cf) : Bool := (List.range c.grey.length).all (greyAt c.grey) && (c.ph == 0 && c.pt == 0 || c.ph == 1 && inB c.pt 0 9 && decide (c.grey.length = 0))
/-- What is known of the letters. -/
structure LeN (n : Nat) (D R t rd nx : Int) : Prop where
  n : n ≤ 8
  D : 0 ≤ D ∧ D ≤ 1000000
  R : 0 ≤ R ∧ R ≤ 1000
  t : 0 ≤ t ∧ t ≤ 400
  rd : 0 ≤ rd ∧ rd ≤ 1000000
  nx : 0 ≤ nx ∧ nx ≤ 9
theorem leH_ok {c : Cf} {n : Nat} {D R t rd nx : Int} (h : LeN n D R t rd nx) (hc : cfOk c = true) : heapOk (leH c n D t rd) = true := by
  have h1 := leA_ok (a := c.a) (m0 := c.m0) (m1 := c.m1) (m2 := c.m2) h.n h.D (r := t) (by have := h.t; omega)
  simp only [cfOk, Bool.and_eq_true] at hc
  have h2 := inB_iff.2 h.rd
  unfold heapOk leH
  simp only [h1, h2, hc.1, hc.2]
  rfl
theorem treeNew_ok {a : Amt} (ha : amtOk a = true) : treeOk (treeNew a) = true := by
  have e : sumTo (treeNew a) 5 = a := by
    show sumA ⟨0, 0, 0⟩ a = a
    unfold sumA
    simp
  unfold treeOk
  rw [e, ha, show List.range 5 = [0, 1, 2, 3, 4] from rfl]
  have n0 : nodeOk (treeNew a) 0 = true := by show (amtOk a && true) = true; rw [ha]; rfl
  simp only [List.all_cons, n0, List.all_nil]
  rfl
theorem treeNew_sum {a : Amt} (ha : amtOk a = true) : sumT (treeNew a) = a := by
  unfold sumT
  rw [treeNew_ok ha]
  show sumA (sumA (sumA (sumA (sumA ⟨0, 0, 0⟩ a) ⟨0, 0, 0⟩) ⟨0, 0, 0⟩) ⟨0, 0, 0⟩) ⟨0, 0, 0⟩ = a
  unfold sumA
  simp
theorem leB_ok {c : Cf} {n : Nat} {D R t rd nx : Int} (h : LeN n D R t rd nx) : amtOk (leB c n R t) = true := by
  obtain ⟨h1, h2, h3, h4, h5, h6⟩ := h
  unfold amtOk leB
  simp only [Bool.and_eq_true, inB_iff]
  cases c.a
  · simp only [cond_false]; omega
  · simp only [cond_true]; omega
theorem leP_ok {c : Cf} {n : Nat} {D R t rd nx : Int} (h : LeN n D R t rd nx) (hc : cfOk c = true) : partOk (leP c n D R t rd nx) = true := by
  have h1 := leH_ok h hc
  have h2 := treeNew_ok (leB_ok (c := c) h)
  have h3 := inB_iff.2 h.nx
  have h4 : amtOk ⟨0, R, t⟩ = true := by
    have := h.R
    have := h.t
    unfold amtOk
    simp only [Bool.and_eq_true, inB_iff]
    omega
  unfold partOk
  simp only [leP, h1, h2, h3, h4]
  rfl
theorem leHeld {S : Obj} {r : Int} {m0 m1 : Bool} : held (leA S r m0 m1) = S.pages := by
  show 0 + 0 + 0 + S.pages + 0 + 0 + 0 + 0 + 0 + 0 + 0 = S.pages
  omega
theorem leP_world {c : Cf} {n : Nat} {D R t rd nx now : Int} (h : LeN n D R t rd nx) (hc : cfOk c = true) (hn : 0 ≤ now ∧ now ≤ 1000000) : worldOk1 now (leP c n D R t rd nx) = true := by
  unfold worldOk1
  rw [inB_iff.2 hn, leP_ok h hc]
  have e : partSum (leP c n D R t rd nx) = ⟨50, 9000, 500⟩ := by
    unfold partSum
    show sumA ⟨(sumT (treeNew (leB c n R t))).pages + held (leA (leS c.a n D c.m2) t c.m0 c.m1), (sumT (treeNew (leB c n R t))).rent, (sumT (treeNew (leB c n R t))).cpu⟩ ⟨0, R, t⟩ = _
    rw [treeNew_sum (leB_ok (c := c) h), leHeld]
    unfold sumA leB leS
    cases c.a
    · simp only [cond_false]
      show (⟨50 + 0 + 0, 9000 - R + R, 500 - t + t⟩ : Amt) = _
      congr 1 <;> omega
    · simp only [cond_true]
      show (⟨50 - (n : Int) + n + 0, 9000 - R + R, 500 - t + t⟩ : Amt) = _
      congr 1 <;> omega
  rw [e]
  rfl

end Go.Proofs.YtiimdlkeikcfiaaGreat.V

namespace Go.Proofs.YtiimdlkeikcfiaaGreat.V
open Go.RowKit M
set_option maxRecDepth 100000
set_option maxHeartbeats 1000000
/-! ### A step of the collector, with the tests of time given by name -/
def shadeFoldX (ex : Obj → Bool) (H : Heap) : Heap → Int → Heap := fun X k => if ex (H.arena.getD k.toNat (d0 .obj)) then X else shadeG X k
def freeX (l : List Obj) (i : Int) : List Obj := freeGo i (l.set i.toNat { d0 .obj with gen := (l.getD i.toNat (d0 .obj)).gen }) 10
def sweepOX (ex : Obj → Bool) (h : Heap) : Bool := h.gc.at_ != 0 && ((h.arena.getD h.gc.at_.toNat (d0 .obj)).kind != 0 && (ex (h.arena.getD h.gc.at_.toNat (d0 .obj)) || !(h.arena.getD h.gc.at_.toNat (d0 .obj)).mark))
def sweepX (ex : Obj → Bool) (h : Heap) : Heap × Int := (sweepE h (if sweepOX ex h then freeX h.arena h.gc.at_ else h.arena.set h.gc.at_.toNat (Obj.w9 false (h.arena.getD h.gc.at_.toNat (d0 .obj)))), if sweepOX ex h then h.gc.at_ else -1)
def stepX (ex : Obj → Bool) (H : Heap) : Heap × Int :=
  if H.gc.phase == 1 then sweepX ex H
  else if H.gc.grey.length == 0 then (⟨H.arena, { H.gc with phase := 1, at_ := 0 }⟩, -1)
  else if (H.gc.grey.getD (H.gc.grey.length - 1) 0 != 0 && ex (H.arena.getD (H.gc.grey.getD (H.gc.grey.length - 1) 0).toNat (d0 .obj))) then (⟨H.arena, { H.gc with grey := H.gc.grey.take (H.gc.grey.length - 1) }⟩, -1)
  else ((edgesN H.arena (H.gc.grey.getD (H.gc.grey.length - 1) 0) H.arena.length).foldl (shadeFoldX ex H) (gcMark H (H.gc.grey.getD (H.gc.grey.length - 1) 0)), -1)
def exE (e : Bool) (o : Obj) : Bool := o.kind == 0 || (o.kind == 2 && e)
def cfS (c : Cf) (e : Bool) : Cf :=
  let H := (stepX (exE e) (leH c 0 0 0 0)).1
  ⟨(H.arena.getD 2 (d0 .obj)).kind != 0, H.gc.phase, H.gc.at_, H.gc.grey, (H.arena.getD 0 (d0 .obj)).mark, (H.arena.getD 1 (d0 .obj)).mark, (H.arena.getD 2 (d0 .obj)).mark⟩
def cfR (c : Cf) (e : Bool) : Bool := (stepX (exE e) (leH c 0 0 0 0)).1.gc.round != 0
def cfI (c : Cf) (e : Bool) : Int := (stepX (exE e) (leH c 0 0 0 0)).2
def cf0 : Cf := ⟨true, 0, 0, [0], false, true, true⟩
theorem free_eq {l : List Obj} {i : Int} (h : arenaOk l = true) (hi : (inB i 1 9 && (l.getD i.toNat (d0 .obj)).kind != 0) = true) : (freeA l i).1 = freeX l i := by
  unfold freeA
  rw [h, Bool.true_and, if_pos hi]
  rfl
theorem stepX_eq {H : Heap} {now : Int} {ex : Obj → Bool} (hk : heapOk H = true) (he : ∀ k, k < 10 → expired (H.arena.getD k (d0 .obj)) now = ex (H.arena.getD k (d0 .obj))) : gcStepG H now = stepX ex H := by
  have hl := arenaOk_len (heapOk_arena hk)
  have hat := heapOk_at hk
  have hd : ex (d0 .obj) = true → True := fun _ => trivial
  unfold gcStepG stepX
  rw [if_pos hk]
  by_cases h1 : (H.gc.phase == 1) = true
  · rw [if_pos h1, if_pos h1]
    have h2 := hat.1 (by simpa using h1)
    have h3 : sweepO H now = sweepOX ex H := by unfold sweepO sweepOX; rw [he _ (by omega)]
    unfold sweepG sweepX sweepA
    rw [h3]
    by_cases h4 : sweepOX ex H = true
    · simp only [if_pos h4]
      unfold sweepOX at h4
      simp only [Bool.and_eq_true, bne_iff_ne] at h4
      rw [free_eq (heapOk_arena hk)]
      rw [Bool.and_eq_true]
      exact ⟨inB_iff.2 (by omega), by simpa using h4.2.1⟩
    · simp only [if_neg h4]
  · rw [if_neg h1, if_neg h1]
    by_cases h5 : (H.gc.grey.length == 0) = true
    · rw [if_pos h5, if_pos h5]
    · rw [if_neg h5, if_neg h5]
      have h5 : H.gc.grey.length ≠ 0 := by simpa using h5
      have h6 := hat.2.2 (H.gc.grey.length - 1) (by omega)
      rw [he _ (by omega)]
      have h7 : ∀ (es : List Int), (∀ k ∈ es, 0 ≤ k ∧ k < 10) → ∀ X, es.foldl (markG H now) X = es.foldl (shadeFoldX ex H) X := by
        intro es
        induction es with
        | nil => intro _ X; rfl
        | cons k t ih =>
          intro hm X
          have hk := hm k (by simp)
          rw [List.foldl_cons, List.foldl_cons, ih (fun x hx => hm x (by simp [hx]))]
          congr 1
          show (if expired (H.arena.getD k.toNat (d0 .obj)) now then X else shadeG X k) = (if ex (H.arena.getD k.toNat (d0 .obj)) then X else shadeG X k)
          rw [he _ (by omega)]
      rw [h7]
      intro k hk
      unfold edgesN at hk
      simp only [List.mem_map, List.mem_filter, List.mem_range] at hk
      obtain ⟨j, hj, rfl⟩ := hk
      omega
theorem leA_getD {S : Obj} {r : Int} {m0 m1 : Bool} : ∀ k, k < 10 → (leA S r m0 m1).getD k (d0 .obj) = (if k = 0 then leR m0 else if k = 1 then leT r m1 else if k = 2 then S else d0 .obj)
  | 0, _ | 1, _ | 2, _ | 3, _ | 4, _ | 5, _ | 6, _ | 7, _ | 8, _ | 9, _ => rfl
  | n + 10, h => absurd h (by omega)
theorem leA_ex {c : Cf} {n : Nat} {D r now : Int} (hn : now ≤ 1000000) : ∀ k, k < 10 → expired ((leA (leS c.a n D c.m2) r c.m0 c.m1).getD k (d0 .obj)) now = exE (decide (D < now)) ((leA (leS c.a n D c.m2) r c.m0 c.m1).getD k (d0 .obj)) := by
  intro k hk
  rw [leA_getD k hk]
  have h1 : decide ((1000000 : Int) < now) = false := by simp; omega
  split
  · show ((1 : Int) == 0 || decide ((1000000 : Int) < now)) = ((1 : Int) == 0 || ((1 : Int) == 2 && _))
    rw [h1]; rfl
  split
  · show ((4 : Int) == 0 || decide ((1000000 : Int) < now)) = ((4 : Int) == 0 || ((4 : Int) == 2 && _))
    rw [h1]; rfl
  split
  · cases c.a
    · rfl
    · rfl
  · rfl
def cfP (c : Cf) (e : Bool) : Prop := ∀ (n : Nat) (D r rd : Int), stepX (exE e) (leH c n D r rd) = (leH (cfS c e) n D r (bif cfR c e then min (rd + 1) 1000000 else rd), cfI c e)
def cfL : List Cf := [⟨true, 0, 0, [0], false, true, true⟩, ⟨true, 0, 0, [], true, true, true⟩, ⟨true, 1, 0, [], true, true, true⟩, ⟨true, 1, 1, [], false, true, true⟩, ⟨true, 1, 2, [], false, false, true⟩, ⟨true, 1, 3, [], false, false, false⟩, ⟨false, 1, 3, [], false, false, false⟩, ⟨true, 1, 4, [], false, false, false⟩, ⟨false, 1, 4, [], false, false, false⟩, ⟨true, 1, 5, [], false, false, false⟩, ⟨false, 1, 5, [], false, false, false⟩, ⟨true, 1, 6, [], false, false, false⟩, ⟨false, 1, 6, [], false, false, false⟩, ⟨true, 1, 7, [], false, false, false⟩, ⟨false, 1, 7, [], false, false, false⟩, ⟨true, 1, 8, [], false, false, false⟩, ⟨false, 1, 8, [], false, false, false⟩, ⟨true, 1, 9, [], false, false, false⟩, ⟨false, 1, 9, [], false, false, false⟩, ⟨true, 0, 0, [0], true, false, false⟩, ⟨false, 0, 0, [0], true, false, false⟩, ⟨true, 0, 0, [1,2], true, true, true⟩, ⟨true, 0, 0, [1], true, true, false⟩, ⟨false, 0, 0, [1], true, true, false⟩, ⟨true, 0, 0, [1], true, true, true⟩, ⟨true, 0, 0, [], true, true, false⟩, ⟨false, 0, 0, [], true, true, false⟩, ⟨true, 1, 0, [], true, true, false⟩, ⟨false, 1, 0, [], true, true, false⟩, ⟨true, 1, 1, [], false, true, false⟩, ⟨false, 1, 1, [], false, true, false⟩, ⟨true, 1, 2, [], false, false, false⟩, ⟨false, 1, 2, [], false, false, false⟩]
theorem cfP_0_false : cfP ⟨true, 0, 0, [0], false, true, true⟩ false := fun _ _ _ _ => by kernel_rfl
theorem cfP_0_true : cfP ⟨true, 0, 0, [0], false, true, true⟩ true := fun _ _ _ _ => by kernel_rfl
theorem cfP_1_false : cfP ⟨true, 0, 0, [], true, true, true⟩ false := fun _ _ _ _ => by kernel_rfl
theorem cfP_1_true : cfP ⟨true, 0, 0, [], true, true, true⟩ true := fun _ _ _ _ => by kernel_rfl
theorem cfP_2_false : cfP ⟨true, 1, 0, [], true, true, true⟩ false := fun _ _ _ _ => by kernel_rfl
theorem cfP_2_true : cfP ⟨true, 1, 0, [], true, true, true⟩ true := fun _ _ _ _ => by kernel_rfl
theorem cfP_3_false : cfP ⟨true, 1, 1, [], false, true, true⟩ false := fun _ _ _ _ => by kernel_rfl
theorem cfP_3_true : cfP ⟨true, 1, 1, [], false, true, true⟩ true := fun _ _ _ _ => by kernel_rfl
theorem cfP_4_false : cfP ⟨true, 1, 2, [], false, false, true⟩ false := fun _ _ _ _ => by kernel_rfl
theorem cfP_4_true : cfP ⟨true, 1, 2, [], false, false, true⟩ true := fun _ _ _ _ => by kernel_rfl
theorem cfP_5_false : cfP ⟨true, 1, 3, [], false, false, false⟩ false := fun _ _ _ _ => by kernel_rfl
theorem cfP_5_true : cfP ⟨true, 1, 3, [], false, false, false⟩ true := fun _ _ _ _ => by kernel_rfl
theorem cfP_6_false : cfP ⟨false, 1, 3, [], false, false, false⟩ false := fun _ _ _ _ => by kernel_rfl
theorem cfP_6_true : cfP ⟨false, 1, 3, [], false, false, false⟩ true := fun _ _ _ _ => by kernel_rfl
theorem cfP_7_false : cfP ⟨true, 1, 4, [], false, false, false⟩ false := fun _ _ _ _ => by kernel_rfl
theorem cfP_7_true : cfP ⟨true, 1, 4, [], false, false, false⟩ true := fun _ _ _ _ => by kernel_rfl
theorem cfP_8_false : cfP ⟨false, 1, 4, [], false, false, false⟩ false := fun _ _ _ _ => by kernel_rfl
theorem cfP_8_true : cfP ⟨false, 1, 4, [], false, false, false⟩ true := fun _ _ _ _ => by kernel_rfl
theorem cfP_9_false : cfP ⟨true, 1, 5, [], false, false, false⟩ false := fun _ _ _ _ => by kernel_rfl
theorem cfP_9_true : cfP ⟨true, 1, 5, [], false, false, false⟩ true := fun _ _ _ _ => by kernel_rfl
theorem cfP_10_false : cfP ⟨false, 1, 5, [], false, false, false⟩ false := fun _ _ _ _ => by kernel_rfl
theorem cfP_10_true : cfP ⟨false, 1, 5, [], false, false, false⟩ true := fun _ _ _ _ => by kernel_rfl
theorem cfP_11_false : cfP ⟨true, 1, 6, [], false, false, false⟩ false := fun _ _ _ _ => by kernel_rfl
theorem cfP_11_true : cfP ⟨true, 1, 6, [], false, false, false⟩ true := fun _ _ _ _ => by kernel_rfl
theorem cfP_12_false : cfP ⟨false, 1, 6, [], false, false, false⟩ false := fun _ _ _ _ => by kernel_rfl
theorem cfP_12_true : cfP ⟨false, 1, 6, [], false, false, false⟩ true := fun _ _ _ _ => by kernel_rfl
theorem cfP_13_false : cfP ⟨true, 1, 7, [], false, false, false⟩ false := fun _ _ _ _ => by kernel_rfl
theorem cfP_13_true : cfP ⟨true, 1, 7, [], false, false, false⟩ true := fun _ _ _ _ => by kernel_rfl
theorem cfP_14_false : cfP ⟨false, 1, 7, [], false, false, false⟩ false := fun _ _ _ _ => by kernel_rfl
theorem cfP_14_true : cfP ⟨false, 1, 7, [], false, false, false⟩ true := fun _ _ _ _ => by kernel_rfl
theorem cfP_15_false : cfP ⟨true, 1, 8, [], false, false, false⟩ false := fun _ _ _ _ => by kernel_rfl
theorem cfP_15_true : cfP ⟨true, 1, 8, [], false, false, false⟩ true := fun _ _ _ _ => by kernel_rfl
theorem cfP_16_false : cfP ⟨false, 1, 8, [], false, false, false⟩ false := fun _ _ _ _ => by kernel_rfl
theorem cfP_16_true : cfP ⟨false, 1, 8, [], false, false, false⟩ true := fun _ _ _ _ => by kernel_rfl
theorem cfP_17_false : cfP ⟨true, 1, 9, [], false, false, false⟩ false := fun _ _ _ _ => by kernel_rfl
theorem cfP_17_true : cfP ⟨true, 1, 9, [], false, false, false⟩ true := fun _ _ _ _ => by kernel_rfl
theorem cfP_18_false : cfP ⟨false, 1, 9, [], false, false, false⟩ false := fun _ _ _ _ => by kernel_rfl
theorem cfP_18_true : cfP ⟨false, 1, 9, [], false, false, false⟩ true := fun _ _ _ _ => by kernel_rfl
theorem cfP_19_false : cfP ⟨true, 0, 0, [0], true, false, false⟩ false := fun _ _ _ _ => by kernel_rfl
theorem cfP_19_true : cfP ⟨true, 0, 0, [0], true, false, false⟩ true := fun _ _ _ _ => by kernel_rfl
theorem cfP_20_false : cfP ⟨false, 0, 0, [0], true, false, false⟩ false := fun _ _ _ _ => by kernel_rfl
theorem cfP_20_true : cfP ⟨false, 0, 0, [0], true, false, false⟩ true := fun _ _ _ _ => by kernel_rfl
theorem cfP_21_false : cfP ⟨true, 0, 0, [1,2], true, true, true⟩ false := fun _ _ _ _ => by kernel_rfl
theorem cfP_21_true : cfP ⟨true, 0, 0, [1,2], true, true, true⟩ true := fun _ _ _ _ => by kernel_rfl
theorem cfP_22_false : cfP ⟨true, 0, 0, [1], true, true, false⟩ false := fun _ _ _ _ => by kernel_rfl
theorem cfP_22_true : cfP ⟨true, 0, 0, [1], true, true, false⟩ true := fun _ _ _ _ => by kernel_rfl
theorem cfP_23_false : cfP ⟨false, 0, 0, [1], true, true, false⟩ false := fun _ _ _ _ => by kernel_rfl
theorem cfP_23_true : cfP ⟨false, 0, 0, [1], true, true, false⟩ true := fun _ _ _ _ => by kernel_rfl
theorem cfP_24_false : cfP ⟨true, 0, 0, [1], true, true, true⟩ false := fun _ _ _ _ => by kernel_rfl
theorem cfP_24_true : cfP ⟨true, 0, 0, [1], true, true, true⟩ true := fun _ _ _ _ => by kernel_rfl
theorem cfP_25_false : cfP ⟨true, 0, 0, [], true, true, false⟩ false := fun _ _ _ _ => by kernel_rfl
theorem cfP_25_true : cfP ⟨true, 0, 0, [], true, true, false⟩ true := fun _ _ _ _ => by kernel_rfl
theorem cfP_26_false : cfP ⟨false, 0, 0, [], true, true, false⟩ false := fun _ _ _ _ => by kernel_rfl
theorem cfP_26_true : cfP ⟨false, 0, 0, [], true, true, false⟩ true := fun _ _ _ _ => by kernel_rfl
theorem cfP_27_false : cfP ⟨true, 1, 0, [], true, true, false⟩ false := fun _ _ _ _ => by kernel_rfl
theorem cfP_27_true : cfP ⟨true, 1, 0, [], true, true, false⟩ true := fun _ _ _ _ => by kernel_rfl
theorem cfP_28_false : cfP ⟨false, 1, 0, [], true, true, false⟩ false := fun _ _ _ _ => by kernel_rfl
theorem cfP_28_true : cfP ⟨false, 1, 0, [], true, true, false⟩ true := fun _ _ _ _ => by kernel_rfl
theorem cfP_29_false : cfP ⟨true, 1, 1, [], false, true, false⟩ false := fun _ _ _ _ => by kernel_rfl
theorem cfP_29_true : cfP ⟨true, 1, 1, [], false, true, false⟩ true := fun _ _ _ _ => by kernel_rfl
theorem cfP_30_false : cfP ⟨false, 1, 1, [], false, true, false⟩ false := fun _ _ _ _ => by kernel_rfl
theorem cfP_30_true : cfP ⟨false, 1, 1, [], false, true, false⟩ true := fun _ _ _ _ => by kernel_rfl
theorem cfP_31_false : cfP ⟨true, 1, 2, [], false, false, false⟩ false := fun _ _ _ _ => by kernel_rfl
theorem cfP_31_true : cfP ⟨true, 1, 2, [], false, false, false⟩ true := fun _ _ _ _ => by kernel_rfl
theorem cfP_32_false : cfP ⟨false, 1, 2, [], false, false, false⟩ false := fun _ _ _ _ => by kernel_rfl
theorem cfP_32_true : cfP ⟨false, 1, 2, [], false, false, false⟩ true := fun _ _ _ _ => by kernel_rfl
theorem cfP_all : ∀ c ∈ cfL, ∀ e, cfP c e := by
  intro c hc e
  simp only [cfL, List.mem_cons, List.not_mem_nil, or_false] at hc
  rcases hc with rfl | rfl | rfl | rfl | rfl | rfl | rfl | rfl | rfl | rfl | rfl | rfl | rfl | rfl | rfl | rfl | rfl | rfl | rfl | rfl | rfl | rfl | rfl | rfl | rfl | rfl | rfl | rfl | rfl | rfl | rfl | rfl | rfl
  · cases e
    · exact cfP_0_false
    · exact cfP_0_true
  · cases e
    · exact cfP_1_false
    · exact cfP_1_true
  · cases e
    · exact cfP_2_false
    · exact cfP_2_true
  · cases e
    · exact cfP_3_false
    · exact cfP_3_true
  · cases e
    · exact cfP_4_false
    · exact cfP_4_true
  · cases e
    · exact cfP_5_false
    · exact cfP_5_true
  · cases e
    · exact cfP_6_false
    · exact cfP_6_true
  · cases e
    · exact cfP_7_false
    · exact cfP_7_true
  · cases e
    · exact cfP_8_false
    · exact cfP_8_true
  · cases e
    · exact cfP_9_false
    · exact cfP_9_true
  · cases e
    · exact cfP_10_false
    · exact cfP_10_true
  · cases e
    · exact cfP_11_false
    · exact cfP_11_true
  · cases e
    · exact cfP_12_false
    · exact cfP_12_true
  · cases e
    · exact cfP_13_false
    · exact cfP_13_true
  · cases e
    · exact cfP_14_false
    · exact cfP_14_true
  · cases e
    · exact cfP_15_false
    · exact cfP_15_true
  · cases e
    · exact cfP_16_false
    · exact cfP_16_true
  · cases e
    · exact cfP_17_false
    · exact cfP_17_true
  · cases e
    · exact cfP_18_false
    · exact cfP_18_true
  · cases e
    · exact cfP_19_false
    · exact cfP_19_true
  · cases e
    · exact cfP_20_false
    · exact cfP_20_true
  · cases e
    · exact cfP_21_false
    · exact cfP_21_true
  · cases e
    · exact cfP_22_false
    · exact cfP_22_true
  · cases e
    · exact cfP_23_false
    · exact cfP_23_true
  · cases e
    · exact cfP_24_false
    · exact cfP_24_true
  · cases e
    · exact cfP_25_false
    · exact cfP_25_true
  · cases e
    · exact cfP_26_false
    · exact cfP_26_true
  · cases e
    · exact cfP_27_false
    · exact cfP_27_true
  · cases e
    · exact cfP_28_false
    · exact cfP_28_true
  · cases e
    · exact cfP_29_false
    · exact cfP_29_true
  · cases e
    · exact cfP_30_false
    · exact cfP_30_true
  · cases e
    · exact cfP_31_false
    · exact cfP_31_true
  · cases e
    · exact cfP_32_false
    · exact cfP_32_true

end Go.Proofs.YtiimdlkeikcfiaaGreat.V

namespace Go.Proofs.YtiimdlkeikcfiaaGreat.V
open Go.RowKit M
set_option maxRecDepth 100000
set_option maxHeartbeats 1000000
/-! ### The reference's sum of a tree of one -/
theorem l5In_v (n : Int) : VC Tryz.prog 101 [iA n] (bR (inB n 0 1000000)) := by
  refine VC.go tiOk vtOk [] Tryz.func101 rfl rfl ?_
  conv => whnf
  refine ⟨_, l1In_v n 0 1000000, ?_⟩
  conv => whnf
  conv => whnf
  repeat (first | (refine ⟨by with_reducible rfl, ?_⟩; conv => whnf) | (refine ⟨rfl, ?_⟩; conv => whnf))
  exact True.intro
theorem sAmtOk_v (a : Amt) (h : amtOk a = true) : VC Tryz.prog 62 [amtA a] (bR true) := by
  simp only [amtOk, Bool.and_eq_true] at h
  refine VC.go tiOk vtOk [] Tryz.func62 rfl rfl ?_
  conv => whnf
  refine ⟨_, l5In_v a.pages, ?_⟩
  conv => whnf
  refine br_t h.1.1 ?_
  conv => whnf
  refine ⟨_, l5In_v a.rent, ?_⟩
  conv => whnf
  refine br_t h.1.2 ?_
  conv => whnf
  refine ⟨_, l5In_v a.cpu, ?_⟩
  conv => whnf
  exact ⟨congrArg _ h.2, True.intro⟩
theorem l6Sum_v (b : Amt) (h : amtOk b = true) : VC Tryz.prog 33 [.one (.ro .res (treeNew b))] (.av (.agg (amtC b))) := by
  simp only [amtOk, Bool.and_eq_true, inB_iff] at h
  refine VC.go tiOk vtOk [] Tryz.func33 rfl rfl ?_
  conv => whnf
  refine VW.unroll tiOk vtOk [] 7 ?_
  conv => whnf
  have e1 : IntKind.i64.wrap (0 + b.pages) = b.pages := by rw [Int.zero_add]; exact wrap_in (by omega)
  have e2 : IntKind.i64.wrap (0 + b.rent) = b.rent := by rw [Int.zero_add]; exact wrap_in (by omega)
  have e3 : IntKind.i64.wrap (0 + b.cpu) = b.cpu := by rw [Int.zero_add]; exact wrap_in (by omega)
  conv => whnf
  repeat (first | (refine ⟨by with_reducible rfl, ?_⟩; conv => whnf) | (refine ⟨congrArg _ e1, ?_⟩; conv => whnf) | (refine ⟨congrArg _ e2, ?_⟩; conv => whnf) | (refine ⟨congrArg _ e3, ?_⟩; conv => whnf) | (refine ⟨rfl, ?_⟩; conv => whnf))
  exact True.intro
theorem sTreeOk_v (b : Amt) (h : amtOk b = true) : VC Tryz.prog 32 [.one (.ro .res (treeNew b))] (bR true) := by
  refine VC.go tiOk vtOk [] Tryz.func32 rfl rfl ?_
  conv => whnf
  refine VW.unroll tiOk vtOk [] 7 ?_
  conv => whnf
  refine ⟨_, sAmtOk_v b h, ?_⟩
  conv => whnf
  repeat' (first | (refine ⟨_, res_eq _ _ _ _ _ _ _ _ _ _, ?_⟩; conv => whnf) | (refine ⟨_, sAmtOk_v (d0 .res).bal (by decide), ?_⟩; conv => whnf) | (refine ⟨_, l6Sum_v b h, ?_⟩; conv => whnf) | (refine ⟨_, sAmtOk_v b h, ?_⟩; conv => whnf))
  repeat (first | (refine VW.unroll tiOk vtOk [] 7 ?_; conv => whnf) | (refine ⟨_, l6Sum_v b h, ?_⟩; conv => whnf) | (refine ⟨_, sAmtOk_v b h, ?_⟩; conv => whnf))
  conv => whnf
  repeat (first | (refine ⟨by with_reducible rfl, ?_⟩; conv => whnf) | (refine ⟨rfl, ?_⟩; conv => whnf))
  exact True.intro
theorem sTreeSum_v (b : Amt) (h : amtOk b = true) : VC Tryz.prog 16 [.one (.ro .res (treeNew b))] (.av (.agg (amtC b))) := by
  refine VC.go tiOk vtOk [] Tryz.func16 rfl rfl ?_
  conv => whnf
  refine ⟨_, sTreeOk_v b h, ?_⟩
  conv => whnf
  refine ⟨_, l6Sum_v b h, ?_⟩
  conv => whnf
  conv => whnf
  repeat (first | (refine ⟨by with_reducible rfl, ?_⟩; conv => whnf) | (refine ⟨rfl, ?_⟩; conv => whnf))
  exact True.intro

end Go.Proofs.YtiimdlkeikcfiaaGreat.V

namespace Go.Proofs.YtiimdlkeikcfiaaGreat.V
open Go.RowKit M
set_option maxRecDepth 100000
set_option maxHeartbeats 1000000
set_option maxHeartbeats 16000000
theorem WorldNew1_v : VC Tryz.prog 7 [.one (.ro .boot richB)] (.av (.agg [iV 0, .own .part true [cy0] []])) :=
  WorldNew_v richB ⟨by decide, fun x hx => by rw [List.mem_singleton.1 hx]; decide⟩ (by decide +kernel) (fun x hx => by rw [List.mem_singleton.1 hx]; decide +kernel)
theorem atF_in (l : List Int) (i : Int) (hi : 0 ≤ i ∧ i ≤ 1000) (hb : ∀ x ∈ l, 0 ≤ x ∧ x < 256) : 0 ≤ atF l i ∧ atF l i < 256 := by
  unfold atF
  split
  · exact hb _ (getD_mem (by omega))
  · omega
theorem bigT_v (l : List Int) (hl : 1048576 < l.length) : VC Tryz.prog 5 [.one (.ro .u8 l)] (bR true) := by
  refine VC.go tiOk vtOk [] Tryz.func5 rfl rfl ?_
  conv => whnf
  exact ⟨congrArg _ (by simp; omega), True.intro⟩
/-- What a run of FnLeased goes through. -/
structure LeMk (d n : Nat) (M : Part × Int × Int) (b : Amt) : Prop where
  v1 : VC Tryz.prog 11 [.agg [iV 0, .ro .part [cy0]], iA 0, iA 1, .one (.ro .call [⟨1, 2, 0, n, d, 0⟩])] (.tup [.agg [iV 0, .own .part true [M.1] []], .agg [iV M.2.1, iV M.2.2]])
  code : M.2.1 = 0
  ok : partOk M.1 = true
  held : held M.1.heap.arena = n
  tree : M.1.tree = treeNew b
  amt : amtOk b = true
  pages : b.pages = 50 - n
  rent : M.1.spent.rent = n * d
  hand : inB M.2.2 0 29999 = true
structure LeRn (d n more : Nat) (M X : Part × Int × Int) : Prop where
  v2 : VC Tryz.prog 11 [.agg [iV 0, .ro .part [M.1]], iA 0, iA 1, .one (.ro .call [⟨8, M.2.2, more, 0, 0, 0⟩])] (.tup [.agg [iV 0, .own .part true [X.1] []], .agg [iV X.2.1, iV X.2.2]])
  code : X.2.1 = 0
  rent : X.1.spent.rent = n * (d + more)
structure LeEnd (t : Nat) (H : Int) (P W1 W2 : Part) (G : Part × Int × Int) (E : Part) (b : Amt) : Prop where
  v3 : VC Tryz.prog 6 [.agg [iV 0, .ro .part [P]], iA t] (.av (.agg [iV t, .own .part true [W1] []]))
  ok : partOk W1 = true
  good : 0 ≤ sgood W1.heap.arena t 0 H
  v4 : VC Tryz.prog 6 [.agg [iV t, .ro .part [W1]], iA 1] (.av (.agg [iV (t + 1), .own .part true [W2] []]))
  v5 : VC Tryz.prog 11 [.agg [iV (t + 1), .ro .part [W2]], iA 0, iA 1, .one (.ro .call [⟨6, H, 0, 0, 0, 0⟩])] (.tup [.agg [iV (t + 1), .own .part true [G.1] []], .agg [iV G.2.1, iV G.2.2]])
  stale : G.2.1 = 4
  v6 : VC Tryz.prog 6 [.agg [iV (t + 1), .ro .part [W2]], iA 15] (.av (.agg [iV (t + 1 + 15), .own .part true [E] []]))
  ok2 : partOk E = true
  held : held E.heap.arena = 0
  tree : E.tree = treeNew b
  amt : amtOk b = true
  pages : b.pages = 50
  live : liveN E.heap.arena = 2
theorem FnLeased_v (l : List Int) (hb : ∀ x ∈ l, 0 ≤ x ∧ x < 256)
    (hC : ∀ d n more : Nat, 0 < d → d ≤ 40 → n ≤ 8 → more ≤ 9 → ∃ M b1, LeMk d n M b1 ∧ ∃ X, (0 < more → LeRn d n more M X) ∧ ∃ W1 W2 G E b2, LeEnd (d + more) M.2.2 (if more = 0 then M.1 else X.1) W1 W2 G E b2) : VC Tryz.prog 4 [.one (.ro .u8 l)] (bR true) := by
  by_cases hl : 1048576 < l.length
  · refine VC.go tiOk vtOk [] Tryz.func4 rfl rfl ?_
    conv => whnf
    refine ⟨_, bigT_v l hl, ?_⟩
    conv => whnf
    conv => whnf
    repeat (first | (refine ⟨by with_reducible rfl, ?_⟩; conv => whnf) | (refine ⟨rfl, ?_⟩; conv => whnf))
    exact True.intro
  replace hl : l.length ≤ 1048576 := by omega
  have a0 := atF_in l 0 (by omega) hb
  have a1 := atF_in l 1 (by omega) hb
  have a2 := atF_in l 2 (by omega) hb
  have t0 := at_v l 0 (by omega) hl hb
  have t1 := at_v l 1 (by omega) hl hb
  have t2 := at_v l 2 (by omega) hl hb
  obtain ⟨d, ed⟩ : ∃ d : Nat, IntKind.i64.wrap (1 + (atF l 0).tmod 40) = (d : Int) := by
    rw [Int.tmod_eq_emod_of_nonneg (by omega), wrap_in (by omega)]
    exact ⟨(1 + atF l 0 % 40).toNat, by omega⟩
  obtain ⟨n, en⟩ : ∃ n : Nat, (atF l 1).tmod 9 = (n : Int) := ⟨((atF l 1).tmod 9).toNat, by rw [Int.tmod_eq_emod_of_nonneg (by omega)]; omega⟩
  obtain ⟨m, em⟩ : ∃ m : Nat, (atF l 2).tmod 10 = (m : Int) := ⟨((atF l 2).tmod 10).toNat, by rw [Int.tmod_eq_emod_of_nonneg (by omega)]; omega⟩
  have hd : 0 < d ∧ d ≤ 40 := by rw [Int.tmod_eq_emod_of_nonneg (by omega), wrap_in (by omega)] at ed; omega
  have hn : n ≤ 8 := by rw [Int.tmod_eq_emod_of_nonneg (by omega)] at en; omega
  have hm : m ≤ 9 := by rw [Int.tmod_eq_emod_of_nonneg (by omega)] at em; omega
  obtain ⟨M, b1, hM, X, hX, W1, W2, G, E, b2, hE⟩ := hC d n m hd.1 hd.2 hn hm
  clear hC
  generalize atF l 0 = x0 at t0 ed
  generalize atF l 1 = x1 at t1 en
  generalize atF l 2 = x2 at t2 em
  have hnd : 0 ≤ (n : Int) * d ∧ (n : Int) * d ≤ 8 * 40 := ⟨Int.mul_nonneg (by omega) (by omega), Int.mul_le_mul (by omega) (by omega) (by omega) (by omega)⟩
  have hw1 : IntKind.i64.wrap ((n : Int) * d) = (n : Int) * d := wrap_in (by omega)
  have hw2 : IntKind.i64.wrap (50 - (n : Int)) = 50 - (n : Int) := wrap_in (by omega)
  have hMa := arenaOk_B (partOk_arena hM.ok)
  have hMl := arenaOk_len (partOk_arena hM.ok)
  have q1 := Held_v M.1 hMa hMl (arenaOk_all (partOk_arena hM.ok))
  rw [hM.held] at q1
  have q2 : VC Tryz.prog 16 [.one (.ro .res M.1.tree)] (.av (.agg (amtC b1))) := by rw [hM.tree]; exact sTreeSum_v b1 hM.amt
  have v1 := hM.v1
  refine VC.go tiOk vtOk [3,4,5,6,7,9,10,11,13,14,15,17,18,19,20] Tryz.func4 rfl rfl ?_
  conv => whnf
  refine ⟨_, big_v l hl, ?_⟩
  conv => whnf
  refine VW.reg tiOk vtOk ?_
  conv => whnf
  refine ⟨_, t0, ?_⟩
  conv => whnf
  refine VW.reg tiOk vtOk ?_
  conv => whnf
  refine ⟨_, t1, ?_⟩
  conv => whnf
  refine VW.reg tiOk vtOk ?_
  conv => whnf
  refine ⟨_, t2, ?_⟩
  conv => whnf
  refine VW.sub (s' := stV 182 [(0, .av (.one (.ro .u8 l))), (2, .av (.one (bV false))), (3, .av (iA d)), (4, .av (iA n)), (5, .av (iA m))] []) rfl ?_ ?_
  · conv => whnf
    repeat (first | (refine ⟨by with_reducible rfl, ?_⟩; conv => whnf) | (refine ⟨congrArg _ ed, ?_⟩; conv => whnf) | (refine ⟨congrArg _ en, ?_⟩; conv => whnf) | (refine ⟨congrArg _ em, ?_⟩; conv => whnf) | (refine ⟨rfl, ?_⟩; conv => whnf))
    exact True.intro
  refine VW.reg tiOk vtOk ?_
  conv => whnf
  refine ⟨_, rich_v, ?_⟩
  conv => whnf
  refine ⟨_, WorldNew1_v, ?_⟩
  conv => whnf
  refine ⟨_, sHandleOf_v, ?_⟩
  conv => whnf
  refine ⟨_, v1, ?_⟩
  conv => whnf
  refine VW.reg tiOk vtOk ?_
  conv => whnf
  refine br_f (by rw [hM.code]; rfl) ?_
  conv => whnf
  refine ⟨_, q1, ?_⟩
  conv => whnf
  refine br_f (by simp) ?_
  conv => whnf
  refine ⟨_, q2, ?_⟩
  conv => whnf
  refine br_f (by rw [hM.pages, hw2]; simp) ?_
  conv => whnf
  refine br_f (by rw [hw1]; show (M.1.spent.rent != (n : Int) * d) = false; rw [hM.rent]; simp) ?_
  conv => whnf
  refine VW.sub (s' := stV 182 [(0, .av (.one (.ro .u8 l))), (2, .av (.one (bV false))), (3, .av (iA d)), (4, .av (iA n)), (5, .av (iA m)), (6, .av (.one (.ptr [6] 0 0))), (7, .av (.one (.ptr [7] 0 0)))] [(6, some (.box [iV 0, .own .part true [M.1] []])), (7, some (.box [iV M.2.1, iV M.2.2]))]) rfl ?_ ?_
  · conv => whnf
    repeat (first | (refine ⟨by with_reducible rfl, ?_⟩; conv => whnf) | (refine ⟨rfl, ?_⟩; conv => whnf))
    exact True.intro
  refine VW.reg tiOk vtOk ?_
  conv => whnf
  obtain ⟨P, hP⟩ : ∃ P, P = (if m = 0 then M.1 else X.1) := ⟨_, rfl⟩
  rw [← hP] at hE
  have v3 := hE.v3
  have hw3 : IntKind.i64.wrap ((d : Int) + m) = ((d + m : Nat) : Int) := by rw [wrap_in (by omega)]; omega
  rw [← hw3] at v3
  by_cases hm0 : m = 0
  focus
    rw [if_pos hm0] at hP
    refine br_f (by simp [hm0]) ?_
    conv => whnf
    refine VW.sub (s' := stV 182 [(2, .av (.one (bV false))), (3, .av (iA d)), (5, .av (iA m)), (6, .av (.one (.ptr [6] 0 0))), (7, .av (.one (.ptr [7] 0 0)))] [(6, some (.box [iV 0, .own .part true [P] []])), (7, some (.box [iV M.2.1, iV M.2.2]))]) rfl ?_ ?_
    · conv => whnf
      repeat (first | (refine ⟨by with_reducible rfl, ?_⟩; conv => whnf) | (refine ⟨(by rw [hP]), ?_⟩; conv => whnf) | (refine ⟨rfl, ?_⟩; conv => whnf))
      exact True.intro
  rotate_left
  focus
    have hR := hX (by omega)
    rw [if_neg hm0] at hP
    have v2 := hR.v2
    have hdm : 0 ≤ (n : Int) * (d + m) ∧ (n : Int) * (d + m) ≤ 8 * 50 := ⟨Int.mul_nonneg (by omega) (by omega), Int.mul_le_mul (by omega) (by omega) (by omega) (by omega)⟩
    have hw4 : IntKind.i64.wrap ((n : Int) * IntKind.i64.wrap ((d : Int) + m)) = (n : Int) * (d + m) := by rw [wrap_in (n := (d : Int) + m) (by omega), wrap_in (by omega)]
    refine br_t (by simp; omega) ?_
    conv => whnf
    refine VW.raw tiOk vtOk ?_
    conv => whnf
    refine ⟨_, v2, ?_⟩
    conv => whnf
    refine VW.reg tiOk vtOk ?_
    conv => whnf
    refine br_f (by rw [hR.code]; rfl) ?_
    conv => whnf
    refine br_f (by rw [hw4]; show (X.1.spent.rent != (n : Int) * (d + m)) = false; rw [hR.rent]; simp) ?_
    conv => whnf
    refine VW.reg tiOk vtOk ?_
    conv => whnf
    refine VW.sub (s' := stV 182 [(2, .av (.one (bV false))), (3, .av (iA d)), (5, .av (iA m)), (6, .av (.one (.ptr [6] 0 0))), (7, .av (.one (.ptr [7] 0 0)))] [(6, some (.box [iV 0, .own .part true [P] []])), (7, some (.box [iV M.2.1, iV M.2.2]))]) rfl ?_ ?_
    · conv => whnf
      repeat (first | (refine ⟨by with_reducible rfl, ?_⟩; conv => whnf) | (refine ⟨(by rw [hP]), ?_⟩; conv => whnf) | (refine ⟨rfl, ?_⟩; conv => whnf))
      exact True.intro
  all_goals
    clear v1 q1 q2 hMa hMl hX
    refine VW.reg tiOk vtOk ?_
    conv => whnf
    refine ⟨_, v3, ?_⟩
    conv => whnf
    have v4 := hE.v4
    have v5 := hE.v5
    have v6 := hE.v6
    have hWa := arenaOk_B (partOk_arena hE.ok)
    have hEa := arenaOk_B (partOk_arena hE.ok2)
    have hEl := arenaOk_len (partOk_arena hE.ok2)
    have q3 := sGoodSlot_v W1.heap.arena ((d + m : Nat) : Int) 0 M.2.2 hWa (partOk_arena hE.ok) hM.hand
    have g3 := hE.good
    have q4 := Held_v E hEa hEl (arenaOk_all (partOk_arena hE.ok2))
    have q5 := LiveCount_v (((d + m : Nat) : Int) + 1 + 15) E (by rw [hEl]; decide)
    have q6 : VC Tryz.prog 16 [.one (.ro .res E.tree)] (.av (.agg (amtC b2))) := by rw [hE.tree]; exact sTreeSum_v b2 hE.amt
    have gst := hE.stale
    have gpg := hE.pages
    rw [hE.held] at q4
    rw [hE.live] at q5
    clear hE
    generalize sgood W1.heap.arena ((d + m : Nat) : Int) 0 M.2.2 = gs at q3 g3
    refine VW.sub (s' := stV 182 [(2, .av (.one (bV false))), (6, .av (.one (.ptr [6] 0 0))), (7, .av (.one (.ptr [7] 0 0)))] [(6, some (.box [iV ((d + m : Nat) : Int), .own .part true [W1] []])), (7, some (.box [iV M.2.1, iV M.2.2]))]) rfl ?_ ?_
    · conv => whnf
      repeat (first | (refine ⟨by with_reducible rfl, ?_⟩; conv => whnf) | (refine ⟨congrArg _ hw3, ?_⟩; conv => whnf) | (refine ⟨rfl, ?_⟩; conv => whnf))
      exact True.intro
    generalize ((d + m : Nat) : Int) = t at *
    refine VW.drw tiOk vtOk rfl ?_
    conv => whnf
    refine ⟨_, q3, ?_⟩
    conv => whnf
    refine br_f (by simp; omega) ?_
    conv => whnf
    refine VW.reg tiOk vtOk ?_
    conv => whnf
    refine ⟨_, v4, ?_⟩
    conv => whnf
    refine VW.reg tiOk vtOk ?_
    conv => whnf
    refine ⟨_, v5, ?_⟩
    conv => whnf
    refine VW.drw tiOk vtOk rfl ?_
    conv => whnf
    refine ⟨_, GcBound_v, ?_⟩
    conv => whnf
    refine ⟨_, v6, ?_⟩
    conv => whnf
    refine VW.reg tiOk vtOk ?_
    conv => whnf
    refine br_t (by rw [gst]; rfl) ?_
    conv => whnf
    refine ⟨_, q4, ?_⟩
    conv => whnf
    refine ⟨_, q6, ?_⟩
    conv => whnf
    refine br_t (by rw [gpg]; rfl) ?_
    conv => whnf
    refine ⟨_, q5, ?_⟩
    conv => whnf
    conv => whnf
    repeat (first | (refine ⟨by with_reducible rfl, ?_⟩; conv => whnf) | (refine ⟨rfl, ?_⟩; conv => whnf))
    exact True.intro

end Go.Proofs.YtiimdlkeikcfiaaGreat.V

namespace Go.Proofs.YtiimdlkeikcfiaaGreat.V
open Go.RowKit M
set_option maxRecDepth 100000
set_option maxHeartbeats 1000000
def rdN (c : Cf) (e : Bool) (rd : Int) : Int := bif cfR c e then min (rd + 1) 1000000 else rd
theorem rdN_in {c : Cf} {e : Bool} {rd : Int} (h : 0 ≤ rd ∧ rd ≤ 1000000) : 0 ≤ rdN c e rd ∧ rdN c e rd ≤ 1000000 := by
  unfold rdN
  cases cfR c e
  · exact h
  · show 0 ≤ min (rd + 1) 1000000 ∧ min (rd + 1) 1000000 ≤ 1000000
    omega
theorem cfL_ok : ∀ c ∈ cfL, cfOk c = true ∧ (∀ e : Bool, cfS c e ∈ cfL ∧ ((0 ≤ cfI c e ∧ c.a = true ∧ cfI c e = 2 ∧ (cfS c e).a = false) ∨ (cfI c e < 0 ∧ (cfS c e).a = c.a))) ∧ c.grey.length ≤ 2 := by decide +kernel
theorem LeN.rd_to {n : Nat} {D R t rd nx rd' : Int} (h : LeN n D R t rd nx) (hr : 0 ≤ rd' ∧ rd' ≤ 1000000) : LeN n D R t rd' nx := ⟨h.n, h.D, h.R, h.t, hr, h.nx⟩
theorem le_step {c : Cf} {n : Nat} {D R t rd nx now : Int} {e : Bool} (h : LeN n D R t rd nx) (hc : c ∈ cfL) (hn : now ≤ 1000000) (he : decide (D < now) = e) : gcStepG (leH c n D t rd) now = (leH (cfS c e) n D t (rdN c e rd), cfI c e) := by
  rw [stepX_eq (leH_ok h (cfL_ok c hc).1) (leA_ex hn), he]
  exact cfP_all c hc e n D t rd
theorem back_new {a b : Amt} {r : Int} (ha : amtOk a = true) (hb : amtOk b = true) (hs : amtOk (sumA a b) = true) (hr : r = 0) : (backT (treeNew a) r b).1 = treeNew (sumA a b) := by
  subst hr
  unfold backT
  rw [treeNew_ok ha, treeNew_sum ha, hb, hs]
  rfl
theorem le_coll {c : Cf} {n : Nat} {D R t rd nx now k : Int} {e : Bool} (h : LeN n D R t rd nx) (hc : c ∈ cfL) (hn : now ≤ 1000000) (he : decide (D < now) = e) : (coll1 now (leP c n D R t rd nx, k)).1 = leP (cfS c e) n D R t (rdN c e rd) nx := by
  have hs := le_step h hc hn he
  obtain ⟨h1, h2, -⟩ := cfL_ok c hc
  obtain ⟨h3, h4⟩ := h2 e
  unfold coll1
  rw [show (leP c n D R t rd nx, k).1.heap = leH c n D t rd from rfl, hs]
  rcases h4 with ⟨i1, i2, i3, i4⟩ | ⟨i1, i2⟩
  · rw [if_pos i1]
    show (⟨_, _, (backT (treeNew (leB c n R t)) ((leA (leS c.a n D c.m2) t c.m0 c.m1).getD (cfI c e).toNat (d0 .obj)).res ⟨((leA (leS c.a n D c.m2) t c.m0 c.m1).getD (cfI c e).toNat (d0 .obj)).pages, 0, 0⟩).1, _, _, _, _, _, _, _⟩ : Part) = _
    rw [i3, leA_getD _ (by decide)]
    show (⟨_, _, (backT (treeNew (leB c n R t)) (leS c.a n D c.m2).res ⟨(leS c.a n D c.m2).pages, 0, 0⟩).1, _, _, _, _, _, _, _⟩ : Part) = _
    have hb := leB_ok (c := c) h
    have hb' := leB_ok (c := cfS c e) h
    have hq : sumA (leB c n R t) ⟨(n : Int), 0, 0⟩ = leB (cfS c e) n R t := by
      unfold leB sumA
      rw [i2, i4]
      show (⟨50 - (n : Int) + n, 9000 - R + 0, 500 - t + 0⟩ : Amt) = ⟨50, 9000 - R, 500 - t⟩
      congr 1 <;> omega
    have hn' : amtOk ⟨(n : Int), 0, 0⟩ = true := by
      have := h.n
      unfold amtOk
      simp only [Bool.and_eq_true, inB_iff]
      omega
    rw [i2]
    show (⟨_, _, (backT (treeNew (leB c n R t)) 0 ⟨(n : Int), 0, 0⟩).1, _, _, _, _, _, _, _⟩ : Part) = _
    rw [back_new hb hn' (by rw [hq]; exact hb') rfl, hq]
    rfl
  · rw [if_neg (by omega)]
    show (⟨_, _, treeNew (leB c n R t), _, _, _, _, _, _, _⟩ : Part) = _
    have hq : leB c n R t = leB (cfS c e) n R t := by
      unfold leB
      rw [i2]
    rw [hq]
    rfl
theorem le_coll' {c : Cf} {n : Nat} {D R t rd nx now k : Int} {e : Bool} (h : LeN n D R t rd nx) (hc : c ∈ cfL) (hn : now ≤ 1000000) (he : decide (D < now) = e) : ∃ k', coll1 now (leP c n D R t rd nx, k) = (leP (cfS c e) n D R t (rdN c e rd) nx, k') := ⟨_, Prod.ext (le_coll h hc hn he) rfl⟩
def cf3 (c : Cf) (e : Bool) : Cf := cfS (cfS (cfS c e) e) e
def rd3 (c : Cf) (e : Bool) (rd : Int) : Int := rdN (cfS (cfS c e) e) e (rdN (cfS c e) e (rdN c e rd))
theorem le_collN {c : Cf} {n : Nat} {D R t rd nx now : Int} {e : Bool} (h : LeN n D R t rd nx) (hc : c ∈ cfL) (hn : now ≤ 1000000) (he : decide (D < now) = e) :
    ((collN now (leP c n D R t rd nx) 1).1 = leP (cfS c e) n D R t (rdN c e rd) nx ∧ (collN now (leP c n D R t rd nx) 2).1 = leP (cfS (cfS c e) e) n D R t (rdN (cfS c e) e (rdN c e rd)) nx ∧ (collN now (leP c n D R t rd nx) 3).1 = leP (cf3 c e) n D R t (rd3 c e rd) nx) ∧
    cfS c e ∈ cfL ∧ cfS (cfS c e) e ∈ cfL ∧ cf3 c e ∈ cfL ∧ (0 ≤ rdN c e rd ∧ rdN c e rd ≤ 1000000) ∧ (0 ≤ rdN (cfS c e) e (rdN c e rd) ∧ rdN (cfS c e) e (rdN c e rd) ≤ 1000000) ∧ 0 ≤ rd3 c e rd ∧ rd3 c e rd ≤ 1000000 := by
  have m1 := ((cfL_ok c hc).2.1 e).1
  have m2 := ((cfL_ok _ m1).2.1 e).1
  have m3 := ((cfL_ok _ m2).2.1 e).1
  have r1 := rdN_in (c := c) (e := e) h.rd
  have r2 := rdN_in (c := cfS c e) (e := e) r1
  have r3 := rdN_in (c := cfS (cfS c e) e) (e := e) r2
  have g1 := le_coll (k := 0) h hc hn he
  obtain ⟨k1, e1⟩ := le_coll' (k := 0) h hc hn he
  have g2 := le_coll (k := k1) (h.rd_to r1) m1 hn he
  obtain ⟨k2, e2⟩ := le_coll' (k := k1) (h.rd_to r1) m1 hn he
  have g3 := le_coll (k := k2) (h.rd_to r2) m2 hn he
  refine ⟨⟨g1, ?_, ?_⟩, m1, m2, m3, r1, r2, r3⟩
  · show (coll1 now (coll1 now (leP c n D R t rd nx, 0))).1 = _
    rw [e1]; exact g2
  · show (coll1 now (coll1 now (coll1 now (leP c n D R t rd nx, 0)))).1 = _
    rw [e1, e2]; exact g3
/-! ### The turn -/
def reachX (ex : Obj → Bool) (l : List Obj) : Nat → List Bool → List Int → List Bool
  | 0, r, _ => r
  | _ + 1, r, [] => r
  | n + 1, r, i :: t => reachX ex l n ((edgesN l i l.length).foldl (fun (s : List Bool × List Int) k => if !(s.1.getD k.toNat false) && !ex (l.getD k.toNat (d0 .obj)) then (s.1.set k.toNat true, s.2 ++ [k]) else s) (r, t)).1 ((edgesN l i l.length).foldl (fun (s : List Bool × List Int) k => if !(s.1.getD k.toNat false) && !ex (l.getD k.toNat (d0 .obj)) then (s.1.set k.toNat true, s.2 ++ [k]) else s) (r, t)).2
theorem edges_in {l : List Obj} {i k : Int} {n : Nat} (h : k ∈ edgesN l i n) : 0 ≤ k ∧ k < n := by
  unfold edgesN at h
  simp only [List.mem_map, List.mem_filter, List.mem_range] at h
  obtain ⟨j, hj, rfl⟩ := h
  omega
theorem push_eq {l : List Obj} {now : Int} {ex : Obj → Bool} (he : ∀ k, k < l.length → expired (l.getD k (d0 .obj)) now = ex (l.getD k (d0 .obj))) : ∀ (es : List Int), (∀ k ∈ es, 0 ≤ k ∧ k < l.length) → ∀ s, es.foldl (pushE l now) s = es.foldl (fun (s : List Bool × List Int) k => if !(s.1.getD k.toNat false) && !ex (l.getD k.toNat (d0 .obj)) then (s.1.set k.toNat true, s.2 ++ [k]) else s) s
  | [], _, _ => rfl
  | k :: t, hm, s => by
    have hk := hm k (by simp)
    rw [List.foldl_cons, List.foldl_cons, push_eq he t (fun x hx => hm x (by simp [hx]))]
    congr 1
    unfold pushE
    rw [he _ (by omega)]
theorem reachX_eq {l : List Obj} {now : Int} {ex : Obj → Bool} (he : ∀ k, k < l.length → expired (l.getD k (d0 .obj)) now = ex (l.getD k (d0 .obj))) : ∀ (n : Nat) (r : List Bool) (t : List Int), reachF l now n r t = reachX ex l n r t
  | 0, _, _ => rfl
  | _ + 1, _, [] => rfl
  | n + 1, r, i :: t => by
    unfold reachF reachX
    rw [push_eq he _ (fun k hk => edges_in hk)]
    exact reachX_eq he n _ _
theorem leReachX : ∀ (a e : Bool) (n : Nat) (D t : Int) (m0 m1 m2 : Bool), reachX (exE e) (leA (leS a n D m2) t m0 m1) 30 reach0 [0] = [true, true, a && !e, false, false, false, false, false, false, false]
  | true, true, _, _, _, _, _, _ => by kernel_rfl
  | true, false, _, _, _, _, _, _ => by kernel_rfl
  | false, true, _, _, _, _, _, _ => by kernel_rfl
  | false, false, _, _, _, _, _, _ => by kernel_rfl
theorem leReach {c : Cf} {n : Nat} {D R t rd nx now : Int} {e : Bool} (h : LeN n D R t rd nx) (hn : now ≤ 1000000) (he : decide (D < now) = e) : reach (leA (leS c.a n D c.m2) t c.m0 c.m1) now = [true, true, c.a && !e, false, false, false, false, false, false, false] := by
  unfold reach
  rw [if_pos (leA_ok h.n h.D (by have := h.t; omega)), reachX_eq (ex := exE (decide (D < now))) (fun k hk => leA_ex hn k hk), he]
  exact leReachX _ _ _ _ _ _ _ _
theorem leThreads {c : Cf} {n : Nat} {D R t rd nx now : Int} (h : LeN n D R t rd nx) (hc : cfOk c = true) (hn : now ≤ 1000000) : threads (leP c n D R t rd nx) now = [1] := by
  have hr : reach (leP c n D R t rd nx).heap.arena now = _ := leReach (c := c) h hn rfl
  unfold threads
  rw [if_pos (leP_ok h hc)]
  have : ∀ k, k < 10 → thrAt (leP c n D R t rd nx) now k = decide (k = 1) := by
    intro k hk
    unfold thrAt
    rw [hr]
    show (_ && ((leA (leS c.a n D c.m2) t c.m0 c.m1).getD k (d0 .obj)).kind == 4) = _
    rw [leA_getD k hk]
    match k, hk with
    | 0, _ => rfl
    | 1, _ => rfl
    | 2, _ =>
      show ((c.a && !decide (D < now)) && (leS c.a n D c.m2).kind == 4) = false
      cases c.a <;> simp [leS, leO, leZ]
    | 3, _ | 4, _ | 5, _ | 6, _ | 7, _ | 8, _ | 9, _ => rfl
  rw [hr]
  show filN _ 10 = [1]
  unfold filN
  rw [List.filter_congr (fun k hk => this k (List.mem_range.1 hk))]
  rfl
theorem leRun {c : Cf} {n : Nat} {D R t rd nx now : Int} (h : LeN n D R t rd nx) (hc : cfOk c = true) (hn : now ≤ 1000000) (hx : nx = 0 ∨ nx = 1) : partRun (leP c n D R t rd nx) now = (leP c n D R (t + 1) rd 1, 1) := by
  have hb := leB_ok (c := c) h
  have hbal : balO (leP c n D R t rd nx) 1 = leB c n R t := by
    unfold balO
    show ((treeNew (leB c n R t)).getD (resOf (leP c n D R t rd nx) 0).toNat (d0 .res)).bal = _
    unfold resOf
    rw [show (leP c n D R t rd nx).tree = treeNew (leB c n R t) from rfl, treeNew_ok hb]
    rfl
  have hrun : runnable (leP c n D R t rd nx) now = [1] := by
    unfold runnable
    rw [leThreads h hc hn]
    have : runAt (leP c n D R t rd nx) 1 = true := by
      unfold runAt
      rw [hbal]
      have := h.t
      show ((0 : Int) == 0 && decide (0 < 500 - t)) = true
      simp
      omega
    simp [this]
  have hi : runI (leP c n D R t rd nx) now = 1 := by
    unfold runI
    rw [hrun]
    rcases hx with rfl | rfl <;> rfl
  unfold partRun
  rw [if_pos (leP_ok h hc), hi, if_neg (by omega), if_neg (by show ¬ (t = 1000000); have := h.t; omega), if_neg (by show ¬ (t = 1000000); have := h.t; omega)]
  congr 1
  unfold ranG
  have hpay : (payT (leP c n D R t rd nx).tree (resOf (leP c n D R t rd nx) ((leP c n D R t rd nx).heap.arena.getD (1 : Int).toNat (d0 .obj)).res) (oneA 2 1)).1 = treeNew (leB c n R (t + 1)) := by
    show (payT (treeNew (leB c n R t)) (resOf (leP c n D R t rd nx) 0) (oneA 2 1)).1 = _
    unfold resOf payT
    rw [show (leP c n D R t rd nx).tree = treeNew (leB c n R t) from rfl, treeNew_ok hb]
    show (treeNew (leB c n R t)).set 0 { (⟨true, -1, leB c n R t⟩ : Res) with bal := (subA (leB c n R t) (oneA 2 1)).1 } = _
    have hs : (subA (leB c n R t) (oneA 2 1)).1 = leB c n R (t + 1) := by
      unfold subA
      have hf : fitsA (oneA 2 1) (leB c n R t) = true := by
        unfold fitsA
        rw [hb]
        show (true && true && _) = true
        obtain ⟨h1, h2, h3, h4, h5, h6⟩ := h
        have e1 : (bif c.a then 50 - (n : Int) else 50) ≥ 0 := by cases c.a <;> simp <;> omega
        show (decide ((0 : Int) ≤ bif c.a then 50 - (n : Int) else 50) && decide ((0 : Int) ≤ 9000 - R) && decide ((1 : Int) ≤ 500 - t)) = true
        simp only [Bool.and_eq_true, decide_eq_true_eq]
        omega
      rw [if_pos hf]
      show (⟨(bif c.a then 50 - (n : Int) else 50) - 0, 9000 - R - 0, 500 - t - 1⟩ : Amt) = ⟨bif c.a then 50 - n else 50, 9000 - R, 500 - (t + 1)⟩
      congr 1 <;> omega
    rw [hs]
    rfl
  rw [hpay]
  show (⟨_, _, _, ⟨leA (leS c.a n D c.m2) (t + 1) c.m0 c.m1, _⟩, _, _, _, ⟨0 + 0, R + 0, t + 1⟩, _, _⟩ : Part) = _
  rw [show (0 : Int) + 0 = 0 from rfl, Int.add_zero]
  rfl

end Go.Proofs.YtiimdlkeikcfiaaGreat.V

namespace Go.Proofs.YtiimdlkeikcfiaaGreat.V
open Go.RowKit M
set_option maxRecDepth 100000
set_option maxHeartbeats 1000000
theorem LeN.t_to {n : Nat} {D R t rd nx : Int} (h : LeN n D R t rd nx) (hr : 0 ≤ t + 1 ∧ t + 1 ≤ 400) : LeN n D R (t + 1) rd 1 := ⟨h.n, h.D, h.R, hr, h.rd, by omega⟩
theorem leP_lens {c : Cf} {n : Nat} {D R t rd nx : Int} (hc : c ∈ cfL) : lensOk (leP c n D R t rd nx) = true := by
  have h1 := (cfL_ok c hc).2.2
  unfold lensOk
  show (decide (4 ≤ 100) && (decide (0 ≤ 100) && decide (c.grey.length ≤ 100))) = true
  simp
  omega
theorem leP_G {c : Cf} {n : Nat} {D R t rd nx : Int} (h : LeN n D R t rd nx) (hc : c ∈ cfL) : partG (leP c n D R t rd nx) := partG_of (leP_ok h (cfL_ok c hc).1) (leP_lens hc)
theorem leS_wait {a m : Bool} {n : Nat} {D : Int} : (leS a n D m).wait = 0 := by cases a <;> rfl
theorem le_tick {c : Cf} {n : Nat} {D R t rd nx now : Int} {e : Bool} (h : LeN n D R t rd nx) (_ht : t + 1 ≤ 400) (hc : c ∈ cfL) (hn : 0 ≤ now ∧ now < 1000000) (he : decide (D < now + 1) = e) (hx : nx = 0 ∨ nx = 1) :
    TickB now (leP c n D R t rd nx) ∧ tickP now (leP c n D R t rd nx) = leP (cf3 c e) n D R (t + 1) (rd3 c e rd) 1 ∧ (0 ≤ rd3 c e rd ∧ rd3 c e rd ≤ 1000000) := by
  obtain ⟨⟨g1, g2, g3⟩, m1, m2, m3, r1, r2, r3⟩ := le_collN h hc (show now + 1 ≤ 1000000 by omega) he
  have k3 : LeN n D R t (rd3 c e rd) nx := h.rd_to r3
  refine ⟨⟨leP_G h hc, rfl, by show (0 : Int) < 3; decide, ?_, hn.2, leP_world h (cfL_ok c hc).1 (by omega), ?_, ?_⟩, ?_, r3⟩
  · intro o ho
    have ho : o ∈ leA (leS c.a n D c.m2) t c.m0 c.m1 := ho
    simp only [leA, List.mem_cons, List.not_mem_nil, or_false] at ho
    rcases ho with rfl | rfl | rfl | rfl | rfl | rfl | rfl | rfl | rfl | rfl
    · exact Int.le_refl 0
    · exact Int.le_refl 0
    · rw [leS_wait]; exact Int.le_refl 0
    all_goals exact Int.le_refl 0
  · intro k hk
    match k, hk with
    | 0, _ => exact ⟨(leP_G h hc).heap, by show (5 : Nat) ≤ 1000000000; decide⟩
    | 1, _ =>
      rw [g1]
      exact ⟨(leP_G (h.rd_to r1) m1).heap, by show (5 : Nat) ≤ 1000000000; decide⟩
    | 2, _ =>
      rw [g2]
      exact ⟨(leP_G (h.rd_to r2) m2).heap, by show (5 : Nat) ≤ 1000000000; decide⟩
  · rw [g3]; exact leP_G k3 m3
  · unfold tickP
    rw [g3, leRun k3 (cfL_ok _ m3).1 (by omega) hx]
def cfK (c : Cf) (e : Bool) : Nat → Cf
  | 0 => c
  | k + 1 => cf3 (cfK c e k) e
theorem le_wait {c : Cf} {n : Nat} {D R t rd nx now : Int} {e : Bool} (h : LeN n D R t rd nx) (hc : c ∈ cfL) (hn : 0 ≤ now) (hx : nx = 0 ∨ nx = 1) : ∀ k : Nat, t + k ≤ 400 → now + k ≤ 1000000 → (∀ j : Nat, j < k → decide (D < now + j + 1) = e) →
    ∃ rd' nx', LeN n D R (t + k) rd' nx' ∧ (nx' = 0 ∨ nx' = 1) ∧ cfK c e k ∈ cfL ∧ waitN now (leP c n D R t rd nx) k = leP (cfK c e k) n D R (t + k) rd' nx' ∧ waitB now (leP c n D R t rd nx) k
  | 0, _, _, _ => ⟨rd, nx, by rw [show t + ((0 : Nat) : Int) = t by omega]; exact h, hx, hc, by rw [show t + ((0 : Nat) : Int) = t by omega]; rfl, fun j hj => absurd hj (Nat.not_lt_zero j)⟩
  | k + 1, h1, h2, h3 => by
    obtain ⟨rd', nx', i1, i2, i3, i4, i5⟩ := le_wait h hc hn hx k (by omega) (by omega) (fun j hj => h3 j (by omega))
    obtain ⟨b1, b2, b3⟩ := le_tick i1 (by omega) i3 (show 0 ≤ now + (k : Int) ∧ now + (k : Int) < 1000000 by omega) (h3 k (by omega)) i2
    have m3 : cfK c e (k + 1) ∈ cfL := by
      have m1 := ((cfL_ok _ i3).2.1 e).1
      have m2 := ((cfL_ok _ m1).2.1 e).1
      exact ((cfL_ok _ m2).2.1 e).1
    have er : t + ((k + 1 : Nat) : Int) = t + (k : Int) + 1 := by omega
    refine ⟨rd3 (cfK c e k) e rd', 1, ?_, Or.inr rfl, m3, ?_, ?_⟩
    · rw [er]
      exact (i1.rd_to b3).t_to (by have := i1.t; omega)
    · show tickP (now + k) (waitN now (leP c n D R t rd nx) k) = _
      rw [i4, b2, er]
      rfl
    · intro j hj
      by_cases hjk : j = k
      · subst hjk
        rw [i4]; exact b1
      · exact i5 j (by omega)
/-! ### The reference's reach -/
def srowX (ex : Obj → Bool) (l : List Obj) (r : List Bool) (e : Int) : List Bool := if ex (l.getD e.toNat (d0 .obj)) then r else r.set e.toNat true
def scellX (ex : Obj → Bool) (l : List Obj) (r : List Bool) (i : Nat) : List Bool := if !(r.getD i false) || (ex (l.getD i (d0 .obj)) && decide (0 < i)) then r else (edgesN l i l.length).foldl (srowX ex l) r
def sreachX (ex : Obj → Bool) (l : List Obj) : List Bool := (List.range 10).foldl (fun r _ => (List.range 10).foldl (scellX ex l) r) reach0
theorem foldl_eq {α β : Type} {f g : β → α → β} : ∀ (l : List α), (∀ x ∈ l, ∀ b, f b x = g b x) → ∀ b, l.foldl f b = l.foldl g b
  | [], _, _ => rfl
  | x :: t, h, b => by rw [List.foldl_cons, List.foldl_cons, h x (by simp), foldl_eq t (fun y hy => h y (by simp [hy]))]
theorem sreachX_eq {l : List Obj} {now : Int} {ex : Obj → Bool} (hl : l.length = 10) (he : ∀ k, k < 10 → expired (l.getD k (d0 .obj)) now = ex (l.getD k (d0 .obj))) : sreach l now = sreachX ex l := by
  unfold sreach sreachX
  refine foldl_eq _ (fun _ _ r => ?_) _
  unfold sround
  refine foldl_eq _ (fun i hi r => ?_) _
  unfold scell scellX
  rw [he i (List.mem_range.1 hi)]
  congr 1
  refine foldl_eq _ (fun k hk r => ?_) _
  have := edges_in hk
  unfold srow srowX
  rw [he k.toNat (by omega)]
theorem leSreachX : ∀ (n : Nat) (D t : Int) (m0 m1 m2 : Bool), (sreachX (exE false) (leA (leS true n D m2) t m0 m1)).getD 2 (d0 .bool) = true := fun _ _ _ _ _ _ => by kernel_rfl
theorem leGood {c : Cf} {n : Nat} {D R t rd nx now : Int} (_h : LeN n D R t rd nx) (ha : c.a = true) (hn : now ≤ 1000000) (he : decide (D < now) = false) : 0 ≤ sgood (leP c n D R t rd nx).heap.arena now 0 36 := by
  unfold sgood
  rw [if_neg (by decide)]
  show 0 ≤ (if ((leA (leS c.a n D c.m2) t c.m0 c.m1).getD 2 (d0 .obj)).kind == 0 || (((leA (leS c.a n D c.m2) t c.m0 c.m1).getD 2 (d0 .obj)).gen != 1 || !((sreach (leA (leS c.a n D c.m2) t c.m0 c.m1) now).getD 2 (d0 .bool))) then (-1 : Int) else 2)
  rw [sreachX_eq rfl (ex := exE (decide (D < now))) (leA_ex hn), he, ha, leSreachX, leA_getD 2 (by decide)]
  show (0 : Int) ≤ 2
  decide
theorem leSlot {c : Cf} {n : Nat} {D R t rd nx now : Int} {e : Bool} (h : LeN n D R t rd nx) (hn : 0 ≤ now ∧ now ≤ 1000000) (he : decide (D < now) = e) : goodSlot (leA (leS c.a n D c.m2) t c.m0 c.m1) now 0 36 = if c.a && !e then 2 else -1 := by
  unfold goodSlot
  rw [leReach h hn.2 he, leA_ok h.n h.D (by have := h.t; omega)]
  rw [show (handleSlot 36).toNat = 2 by decide, leA_getD 2 (by decide)]
  cases c.a
  · rfl
  · cases e <;> rfl
theorem leCan {c : Cf} {n : Nat} {D R t rd nx now : Int} (h : LeN n D R t rd nx) (hc : cfOk c = true) (hn : now ≤ 1000000) : canCall (leP c n D R t rd nx) now 1 = true := by
  unfold canCall
  rw [leThreads h hc hn]
  rfl
theorem le_call {c : Cf} {n : Nat} {D R t rd nx now : Int} {k : Call} (h : LeN n D R t rd nx) (hc : cfOk c = true) (hn : 0 ≤ now ∧ now ≤ 1000000) :
    callP now (leP c n D R t rd nx) 1 k = (if (doC (leP c n D R t rd nx) 0 now k).2.1 == 0 then ((doC (leP c n D R t rd nx) 0 now k).1, 0, (doC (leP c n D R t rd nx) 0 now k).2.2)
    else (if k.kind == 1 && ((doC (leP c n D R t rd nx) 0 now k).2.1 == 6 || (doC (leP c n D R t rd nx) 0 now k).2.1 == 7) then pressP (leP c n D R t rd nx) else (leP c n D R t rd nx), (doC (leP c n D R t rd nx) 0 now k).2.1, 0)) := by
  unfold callP partCall
  rw [leP_ok h hc, if_pos (by rw [inB_iff.2 hn]; rfl), leCan h hc hn.2, if_pos rfl]
/-- A thing whose lease is over is not there. -/
theorem le_stale {c : Cf} {n : Nat} {D R t rd nx now : Int} (h : LeN n D R t rd nx) (hc : cfOk c = true) (hn : 0 ≤ now ∧ now ≤ 1000000) (he : decide (D < now) = true) :
    (slotC (leP c n D R t rd nx) 0 now 36 2).2 = 4 ∧ callP now (leP c n D R t rd nx) 1 ⟨6, 36, 0, 0, 0, 0⟩ = (leP c n D R t rd nx, 4, 0) := by
  have hs : slotC (leP c n D R t rd nx) 0 now 36 2 = (0, 4) := by
    have hg : goodSlot (leP c n D R t rd nx).heap.arena now 0 36 = -1 := by
      show goodSlot (leA (leS c.a n D c.m2) t c.m0 c.m1) now 0 36 = -1
      rw [leSlot h hn he]
      cases c.a <;> rfl
    unfold slotC
    rw [hg]
    rfl
  refine ⟨by rw [hs], ?_⟩
  rw [le_call h hc hn]
  have hd : doC (leP c n D R t rd nx) 0 now ⟨6, 36, 0, 0, 0, 0⟩ = (leP c n D R t rd nx, 4, 0) := by
    unfold doC
    show (leP c n D R t rd nx, (slotC (leP c n D R t rd nx) 0 now 36 2).2, (0 : Int)) = _
    rw [hs]
  rw [hd]
  rfl
theorem payNew {p : Part} {a b : Amt} (ht : p.tree = treeNew a) (ha : amtOk a = true) (hf : fitsA b a = true) (hs : amtOk p.spent = true) (hr : amtOk ⟨0, b.rent, 0⟩ = true) (hq : amtOk (sumA p.spent ⟨0, b.rent, 0⟩) = true) :
    payC p 0 b = ({ p with tree := treeNew ⟨a.pages - b.pages, a.rent - b.rent, a.cpu - b.cpu⟩, spent := sumA p.spent ⟨0, b.rent, 0⟩ }, true) := by
  have h1 : payT p.tree 0 b = (treeNew ⟨a.pages - b.pages, a.rent - b.rent, a.cpu - b.cpu⟩, true) := by
    unfold payT
    rw [ht, treeNew_ok ha]
    show ((treeNew a).set 0 { (⟨true, -1, a⟩ : Res) with bal := (subA a b).1 }, (subA a b).2) = _
    unfold subA
    rw [if_pos hf]
    rfl
  have h2 : addA p.spent ⟨0, b.rent, 0⟩ = (sumA p.spent ⟨0, b.rent, 0⟩, true) := by
    unfold addA
    rw [hs, hr, hq]
    rfl
  unfold payC
  rw [h1, h2]
  rfl
theorem amtOk_iff {a : Amt} : amtOk a = true ↔ (0 ≤ a.pages ∧ a.pages ≤ 1000000) ∧ (0 ≤ a.rent ∧ a.rent ≤ 1000000) ∧ 0 ≤ a.cpu ∧ a.cpu ≤ 1000000 := by
  unfold amtOk
  simp only [Bool.and_eq_true, inB_iff]
  omega
theorem le_renew {c : Cf} {n : Nat} {D R rd nx : Int} {m : Nat} (h : LeN n D R 0 rd nx) (hc : cfOk c = true) (ha : c.a = true) (hm : 0 < m ∧ m ≤ 9) (hD : 0 ≤ D ∧ D ≤ 100) (hR : 0 ≤ R ∧ R ≤ 400) :
    callP 0 (leP c n D R 0 rd nx) 1 ⟨8, 36, m, 0, 0, 0⟩ = (leP c n (D + m) (R + n * m) 0 rd nx, 0, 0) := by
  have hn := h.n
  have hnm : 0 ≤ (n : Int) * m ∧ (n : Int) * m ≤ 8 * 9 := ⟨Int.mul_nonneg (by omega) (by omega), Int.mul_le_mul (by omega) (by omega) (by omega) (by omega)⟩
  have hg : goodSlot (leP c n D R 0 rd nx).heap.arena 0 0 36 = 2 := by
    show goodSlot (leA (leS c.a n D c.m2) 0 c.m0 c.m1) 0 0 36 = 2
    rw [leSlot h (by omega) (e := false) (by simp; omega), ha]
    rfl
  have hs : slotC (leP c n D R 0 rd nx) 0 0 36 0 = (2, 0) := by
    unfold slotC
    rw [hg]
    rfl
  have ho : (leP c n D R 0 rd nx).heap.arena.getD (2 : Int).toNat (d0 .obj) = leO n D c.m2 := by
    show (leA (leS c.a n D c.m2) 0 c.m0 c.m1).getD 2 (d0 .obj) = _
    rw [leA_getD 2 (by decide), ha]
    rfl
  have hr : resOf (leP c n D R 0 rd nx) 0 = 0 := by
    unfold resOf
    split <;> rfl
  have hb : renewBad (leO n D c.m2) 2 (m : Int) = false := by
    unfold renewBad
    rw [inB_iff.2 (show (1 : Int) ≤ m ∧ (m : Int) ≤ 1000 by omega)]
    show (false || (false || decide (1000000 < D + (m : Int)))) = false
    simp
    omega
  have hp : payC (leP c n D R 0 rd nx) 0 ⟨0, (n : Int) * m, 0⟩ = ({ leP c n D R 0 rd nx with tree := treeNew ⟨(leB c n R 0).pages - 0, (leB c n R 0).rent - n * m, (leB c n R 0).cpu - 0⟩, spent := sumA ⟨0, R, 0⟩ ⟨0, n * m, 0⟩ }, true) := by
    refine payNew rfl (leB_ok h) ?_ (amtOk_iff.2 (by show ((0 : Int) ≤ 0 ∧ (0 : Int) ≤ 1000000) ∧ (0 ≤ R ∧ R ≤ 1000000) ∧ (0 : Int) ≤ 0 ∧ (0 : Int) ≤ 1000000; omega)) (amtOk_iff.2 (by show ((0 : Int) ≤ 0 ∧ (0 : Int) ≤ 1000000) ∧ (0 ≤ (n : Int) * m ∧ (n : Int) * m ≤ 1000000) ∧ (0 : Int) ≤ 0 ∧ (0 : Int) ≤ 1000000; omega)) (amtOk_iff.2 (by show ((0 : Int) ≤ 0 ∧ (0 : Int) ≤ 1000000) ∧ (0 ≤ R + (n : Int) * m ∧ R + (n : Int) * m ≤ 1000000) ∧ (0 : Int) ≤ 0 ∧ (0 : Int) ≤ 1000000; omega))
    unfold fitsA
    rw [leB_ok h, (amtOk_iff (a := ⟨0, (n : Int) * m, 0⟩)).2 (by show ((0 : Int) ≤ 0 ∧ (0 : Int) ≤ 1000000) ∧ (0 ≤ (n : Int) * m ∧ (n : Int) * m ≤ 1000000) ∧ (0 : Int) ≤ 0 ∧ (0 : Int) ≤ 1000000; omega)]
    have e1 : (bif c.a then 50 - (n : Int) else 50) ≥ 0 := by rw [ha]; simp; omega
    show (decide ((0 : Int) ≤ bif c.a then 50 - (n : Int) else 50) && decide ((n : Int) * m ≤ 9000 - R) && decide ((0 : Int) ≤ 500 - 0)) = true
    simp only [Bool.and_eq_true, decide_eq_true_eq]
    omega
  have hd : renewC (leP c n D R 0 rd nx) 0 0 ⟨8, 36, m, 0, 0, 0⟩ = (leP c n (D + m) (R + n * m) 0 rd nx, 0) := by
    unfold renewC
    rw [show (⟨8, 36, m, 0, 0, 0⟩ : Call).a = 36 from rfl, show (⟨8, 36, m, 0, 0, 0⟩ : Call).b = m from rfl, hs]
    rw [if_neg (by decide), ho, hb, if_neg (by decide)]
    unfold renewP
    rw [ho, show (leO n D c.m2).res = 0 from rfl, hr, show (leO n D c.m2).pages = n from rfl, hp, if_pos rfl]
    unfold renewH
    rw [ho]
    congr 1
    have e1 : (leB c n R 0).pages - 0 = (leB c n (R + n * m) 0).pages := by show (bif c.a then 50 - (n : Int) else 50) - 0 = (bif c.a then 50 - (n : Int) else 50); omega
    have e2 : (leB c n R 0).rent - n * m = (leB c n (R + n * m) 0).rent := by show 9000 - R - (n : Int) * m = 9000 - (R + n * m); omega
    have e3 : (leB c n R 0).cpu - 0 = (leB c n (R + n * m) 0).cpu := by show (500 - 0 : Int) - 0 = 500 - 0; omega
    rw [e1, e2, e3]
    have e4 : (leP c n D R 0 rd nx).heap.arena.set (2 : Int).toNat (Obj.w4 ((leO n D c.m2).til + m) (leO n D c.m2)) = leA (leS c.a n (D + m) c.m2) 0 c.m0 c.m1 := by rw [ha]; rfl
    rw [e4]
    rfl
  rw [le_call h hc (by omega)]
  have hd2 : doC (leP c n D R 0 rd nx) 0 0 ⟨8, 36, m, 0, 0, 0⟩ = (leP c n (D + m) (R + n * m) 0 rd nx, 0, 0) := by
    unfold doC
    show ((renewC (leP c n D R 0 rd nx) 0 0 ⟨8, 36, m, 0, 0, 0⟩).1, (renewC (leP c n D R 0 rd nx) 0 0 ⟨8, 36, m, 0, 0, 0⟩).2, (0 : Int)) = _
    rw [hd]
  rw [hd2]
  rfl

end Go.Proofs.YtiimdlkeikcfiaaGreat.V

namespace Go.Proofs.YtiimdlkeikcfiaaGreat.V
open Go.RowKit M
set_option maxRecDepth 100000
set_option maxHeartbeats 1000000
/-! ### The thing is made -/
def cf00 : Cf := ⟨true, 0, 0, [0], false, true, false⟩
def leO0 (n d : Nat) : Obj := ⟨0, 2, 0, 0, d, n, 0, 0, 0, false, [-1, -1], List.replicate n 0, []⟩
theorem cy0_ok : partOk cy0 = true ∧ canCall cy0 0 1 = true ∧ slotC cy0 0 0 0 1 = (0, 0) ∧ worldOk1 0 cy0 = true ∧ lensOk cy0 = true ∧ arenaOk cy0.heap.arena = true ∧ (List.range 10).find? (freeAt cy0.heap.arena) = some 2 := by decide +kernel
theorem cf0_in : cf0 ∈ cfL ∧ cfOk cf00 = true ∧ cfOk cf0 = true := by decide +kernel
theorem le_make {d n : Nat} (hd : 0 < d ∧ d ≤ 40) (hn : n ≤ 8) : callP 0 cy0 1 ⟨1, 2, 0, n, d, 0⟩ = (leP cf0 n d (n * d) 0 0 0, 0, 36) := by
  obtain ⟨h1, h2, h3, h4, h5, h6, h7⟩ := cy0_ok
  have hnd : 0 ≤ (n : Int) * d ∧ (n : Int) * d ≤ 8 * 40 := ⟨Int.mul_nonneg (by omega) (by omega), Int.mul_le_mul (by omega) (by omega) (by omega) (by omega)⟩
  have hN : LeN n d (n * d) 0 0 0 := ⟨hn, by omega, by omega, by omega, by omega, by omega⟩
  have hm : makeOk 0 ⟨1, 2, 0, n, d, 0⟩ = true := by
    unfold makeOk
    show (inB 2 1 4 && (inB (n : Int) 0 8 && (inB (d : Int) 1 1000 && (!decide (1000000 < 0 + (d : Int)) && inB 0 0 4)))) = true
    rw [inB_iff.2 (show (0 : Int) ≤ n ∧ (n : Int) ≤ 8 by omega), inB_iff.2 (show (1 : Int) ≤ d ∧ (d : Int) ≤ 1000 by omega)]
    simp
    refine ⟨by decide, by omega, by decide⟩
  have hp : payC cy0 0 ⟨n, n * d, 0⟩ = ({ cy0 with tree := treeNew ⟨50 - n, 9000 - n * d, 500 - 0⟩, spent := sumA ⟨0, 0, 0⟩ ⟨0, n * d, 0⟩ }, true) := by
    refine payNew (a := ⟨50, 9000, 500⟩) rfl (by decide) ?_ (by decide) (amtOk_iff.2 (by show ((0 : Int) ≤ 0 ∧ (0 : Int) ≤ 1000000) ∧ (0 ≤ (n : Int) * d ∧ (n : Int) * d ≤ 1000000) ∧ (0 : Int) ≤ 0 ∧ (0 : Int) ≤ 1000000; omega)) (amtOk_iff.2 (by show ((0 : Int) ≤ 0 ∧ (0 : Int) ≤ 1000000) ∧ (0 ≤ 0 + (n : Int) * d ∧ 0 + (n : Int) * d ≤ 1000000) ∧ (0 : Int) ≤ 0 ∧ (0 : Int) ≤ 1000000; omega))
    unfold fitsA
    rw [(amtOk_iff (a := ⟨(n : Int), (n : Int) * d, 0⟩)).2 (by show ((0 : Int) ≤ n ∧ (n : Int) ≤ 1000000) ∧ (0 ≤ (n : Int) * d ∧ (n : Int) * d ≤ 1000000) ∧ (0 : Int) ≤ 0 ∧ (0 : Int) ≤ 1000000; omega)]
    show (amtOk ⟨50, 9000, 500⟩ && decide ((n : Int) ≤ 50) && decide ((n : Int) * d ≤ 9000) && decide ((0 : Int) ≤ 500)) = true
    simp only [Bool.and_eq_true, decide_eq_true_eq]
    refine ⟨⟨⟨by decide, ?_⟩, ?_⟩, ?_⟩ <;> omega
  have hput : putA cy0.heap.arena (leO0 n d) = (leA (leO n d false) 0 false true, 2) := by
    unfold putA
    rw [h6, h7, show (leO0 n d).kind = 2 from rfl, if_pos (by decide)]
    show (if arenaOk (leA (leO n d false) 0 false true) then (leA (leO n d false) 0 false true, ((2 : Nat) : Int)) else (cy0.heap.arena, -1)) = _
    have hA : arenaOk (leA (leO n d false) 0 false true) = true := leA_ok (a := true) (m2 := false) (m0 := false) (m1 := true) (r := 0) hn (D := (d : Int)) (by omega) (by omega)
    rw [hA]
    rfl
  have hborn : bornG ⟨leA (leO n d false) 0 false true, cy0.heap.gc⟩ 2 = leH cf0 n d 0 0 := by
    have hh : heapOk ⟨leA (leO n d false) 0 false true, cy0.heap.gc⟩ = true := leH_ok (c := cf00) hN cf0_in.2.1
    unfold bornG
    rw [hh]
    rfl
  have hdo : doC cy0 0 0 ⟨1, 2, 0, n, d, 0⟩ = (leP cf0 n d (n * d) 0 0 0, 0, 36) := by
    unfold doC
    show makeC cy0 0 0 ⟨1, 2, 0, n, d, 0⟩ = _
    unfold makeC
    rw [hm, if_pos rfl]
    show (if (slotC cy0 0 0 0 1).2 != 0 then _ else if (payC cy0 0 ⟨n, n * d, 0⟩).2 then makeG (payC cy0 0 ⟨n, n * d, 0⟩).1 0 (makeO 0 ⟨1, 2, 0, n, d, 0⟩ (slotC cy0 0 0 0 1).1) else _) = _
    rw [h3, hp, if_neg (by decide), if_pos rfl]
    have ho : makeO 0 ⟨1, 2, 0, n, d, 0⟩ ((0, 0) : Int × Int).1 = leO0 n d := by
      unfold makeO
      show (⟨0, 2, 0, 0, 0 + (d : Int), n, 0, 0, 0, false, [-1, -1], List.replicate (n : Int).toNat 0, []⟩ : Obj) = _
      rw [Int.zero_add, Int.toNat_natCast]
      rfl
    rw [ho]
    unfold makeG
    rw [show ({ cy0 with tree := treeNew ⟨50 - n, 9000 - n * d, 500 - 0⟩, spent := sumA ⟨0, 0, 0⟩ ⟨0, n * d, 0⟩ } : Part).heap = cy0.heap from rfl, hput, show ((leA (leO n d false) 0 false true, (2 : Int)) : List Obj × Int).2 = 2 from rfl, if_neg (by decide)]
    rw [show ((leA (leO n d false) 0 false true, (2 : Int)) : List Obj × Int).1 = leA (leO n d false) 0 false true from rfl, hborn]
    have e1 : (0 : Int) + n * d = n * d := Int.zero_add _
    show ((⟨[0, 0, 0, 0], [], treeNew ⟨50 - n, 9000 - n * d, 500 - 0⟩, leH cf0 n d 0 0, [], 0, 0, ⟨0, 0 + n * d, 0⟩, 0, 0⟩ : Part), (0 : Int), handleOf 0 2 1) = _
    rw [e1]
    rfl
  unfold callP partCall
  rw [h1, if_pos (by decide), h2, if_pos rfl, hdo]
  rfl
theorem cf_all : ∀ L, L < 50 → (cfK cf0 false L).a = true ∧ (cfK (cfK (cfK cf0 false L) true 1) true 15).a = false := by decide +kernel
theorem le_live {c : Cf} {n : Nat} {D R t rd nx : Int} (ha : c.a = false) : liveN (leP c n D R t rd nx).heap.arena = 2 ∧ held (leP c n D R t rd nx).heap.arena = 0 := by
  constructor
  · show liveN (leA (leS c.a n D c.m2) t c.m0 c.m1) = 2
    rw [ha]; rfl
  · show held (leA (leS c.a n D c.m2) t c.m0 c.m1) = 0
    rw [leHeld, ha]; rfl
theorem le_end {L n : Nat} (h0 : 0 < L) (hL : L < 50) (hn : n ≤ 8) : ∃ W1 W2 G E b2, LeEnd L 36 (leP cf0 n L (n * L) 0 0 0) W1 W2 G E b2 := by
  have hnd : 0 ≤ (n : Int) * L ∧ (n : Int) * L ≤ 8 * 49 := ⟨Int.mul_nonneg (by omega) (by omega), Int.mul_le_mul (by omega) (by omega) (by omega) (by omega)⟩
  have hN : LeN n L (n * L) 0 0 0 := ⟨hn, by omega, by omega, by omega, by omega, by omega⟩
  obtain ⟨ca, cb⟩ := cf_all L hL
  obtain ⟨r1, x1, i1, i2, i3, i4, i5⟩ := le_wait hN cf0_in.1 (now := 0) (e := false) (by omega) (Or.inl rfl) L (by omega) (by omega) (fun j hj => by simp; omega)
  rw [Int.zero_add] at i1 i4
  obtain ⟨r2, x2, j1, j2, j3, j4, j5⟩ := le_wait i1 i3 (now := L) (e := true) (by omega) i2 1 (by omega) (by omega) (fun j hj => by simp; omega)
  obtain ⟨r3, x3, k1, k2, k3, k4, k5⟩ := le_wait j1 j3 (now := L + 1) (e := true) (by omega) j2 15 (by omega) (by omega) (fun j hj => by simp; omega)
  have s1 := le_stale (now := L + 1) j1 (cfL_ok _ j3).1 (by omega) (by simp; omega)
  have w1 := wait_v 0 (leP cf0 n L (n * L) 0 0 0) L h0 (by omega) i5
  have w2 := wait_v L _ 1 (by decide) (by decide) j5
  have w3 := wait_v (L + 1) _ 15 (by decide) (by decide) k5
  rw [i4, Int.zero_add] at w1
  rw [j4] at w2
  rw [k4] at w3
  have d1 := do_v1 (L + 1) _ 1 ⟨6, 36, 0, 0, 0, 0⟩ (leP_G j1 j3) (Or.inr (Or.inr ⟨rfl, by rw [s1.1]; decide⟩)) (leP_world (now := L + 1) j1 (cfL_ok _ j3).1 (by omega))
  have hl := le_live (n := n) (D := L) (R := n * L) (t := L + (1 : Nat) + (15 : Nat)) (rd := r3) (nx := x3) cb
  refine ⟨_, _, _, _, _, w1, leP_ok i1 (cfL_ok _ i3).1, leGood i1 ca (by omega) (by simp), w2, d1, ?_, w3, leP_ok k1 (cfL_ok _ k3).1, hl.2, rfl, leB_ok k1, ?_, hl.1⟩
  · rw [s1.2]
  · show (bif (cfK (cfK (cfK cf0 false L) true 1) true 15).a then 50 - (n : Int) else 50) = 50
    rw [cb]
    rfl
theorem FnLeased_t (l : List Int) (hb : ∀ x ∈ l, 0 ≤ x ∧ x < 256) : VC Tryz.prog 4 [.one (.ro .u8 l)] (bR true) := by
  refine FnLeased_v l hb (fun d n more h0 hd hn hm => ?_)
  have hnd : 0 ≤ (n : Int) * d ∧ (n : Int) * d ≤ 8 * 40 := ⟨Int.mul_nonneg (by omega) (by omega), Int.mul_le_mul (by omega) (by omega) (by omega) (by omega)⟩
  have hN : LeN n d (n * d) 0 0 0 := ⟨hn, by omega, by omega, by omega, by omega, by omega⟩
  have hm1 := le_make (d := d) (n := n) ⟨h0, hd⟩ hn
  have hd1 := do_v1 0 cy0 1 ⟨1, 2, 0, n, d, 0⟩ (partG_of cy0_ok.1 cy0_ok.2.2.2.2.1) (Or.inl (by show (1 : Int) ≤ 1 ∧ (1 : Int) ≤ 5; decide)) cy0_ok.2.2.2.1
  rw [hm1] at hd1
  refine ⟨(leP cf0 n d (n * d) 0 0 0, 0, 36), leB cf0 n (n * d) 0, ⟨hd1, rfl, leP_ok hN cf0_in.2.2, ?_, rfl, leB_ok hN, rfl, rfl, by show inB 36 0 29999 = true; decide⟩, ?_⟩
  · show held (leA (leS true n d true) 0 false true) = _
    rw [leHeld]; rfl
  by_cases h : more = 0
  · subst h
    obtain ⟨W1, W2, G, E, b2, hE⟩ := le_end (L := d) h0 (by omega) hn
    exact ⟨(leP cf0 n d (n * d) 0 0 0, 0, 36), fun h => absurd h (by omega), W1, W2, G, E, b2, hE⟩
  · have hr := le_renew (m := more) hN cf0_in.2.2 rfl ⟨by omega, hm⟩ (by omega) (by omega)
    have hd2 := do_v1 0 (leP cf0 n d (n * d) 0 0 0) 1 ⟨8, 36, more, 0, 0, 0⟩ (leP_G hN cf0_in.1) (Or.inr (Or.inl rfl)) (leP_world hN cf0_in.2.2 (by omega))
    rw [hr] at hd2
    have e1 : (n : Int) * d + n * more = n * (d + more) := by rw [Int.mul_add]
    obtain ⟨W1, W2, G, E, b2, hE⟩ := le_end (L := d + more) (by omega) (by omega) hn
    refine ⟨(leP cf0 n (d + more) (n * d + n * more) 0 0 0, 0, 0), fun _ => ⟨hd2, rfl, ?_⟩, W1, W2, G, E, b2, ?_⟩
    · show (n : Int) * d + n * more = _
      rw [e1]
    · rw [if_neg h]
      show LeEnd (d + more) 36 (leP cf0 n (d + more) (n * d + n * more) 0 0 0) W1 W2 G E b2
      rw [e1]
      exact hE

end Go.Proofs.YtiimdlkeikcfiaaGreat.V

namespace Go.Proofs.YtiimdlkeikcfiaaGreat
open Go.ChangeShapes Go.WideShapes Go.ChangeAt Go.RowKit Go.Deep

/-- A code's bytes. -/
theorem decByte {H : Type} {enc : TypeId × Value → H} {W : World} (n : Nat) (cs : List Value) (y : DataW H × List MemPlace) (h : DataW.trod enc Tryz.prog W 0 (fun _ => true) true n 5 cs = some y) : ∃ x : UInt8, cs = [Value.int .u8 (x.toNat : Int)] := by
  obtain ⟨v, hv, _, hw⟩ := DataW.trod_int Tryz.underlying5 h
  simp [Lit.wf, IntKind.min, IntKind.max, IntKind.signed, IntKind.bits] at hw
  refine ⟨UInt8.ofNat v.toNat, ?_⟩
  rw [hv]
  have : ((UInt8.ofNat v.toNat).toNat : Int) = v := by
    rw [UInt8.toNat_ofNat', Nat.mod_eq_of_lt (by omega)]
    omega
  rw [this]

theorem cell_size {w : World} {b k : Nat} {u : Value} (h : w.cell? ⟨b, k, none⟩ = some u) : ∃ cells T fz, w.heap[b]? = some (.cells cells T fz) ∧ k < cells.size := by
  unfold World.cell? at h
  simp only at h
  split at h
  · rename_i c T fz hg
    refine ⟨c, T, fz, hg, ?_⟩
    have h : c[k]? = some u := by simpa using h
    exact (Array.getElem?_eq_some_iff.1 h).1
  · cases h
theorem cells_byte : (Tryz.prog).cellsOf 5 = 1 := by kernel_rfl
set_option maxRecDepth 100000 in
/-- A code opened: bytes that may be read. -/
theorem open_code {H : Type} {enc : TypeId × Value → H} {W : World} {v : Value} {d : DataW H} {p : List MemPlace} {r : Reach} {b0 : Nat} (hval : Value.okWide Tryz.prog W r b0 22 v) (h : DataW.Trod enc Tryz.prog W 0 (fun _ => true) true 22 v d p) :
    ∃ l : List Int, (∀ x ∈ l, 0 ≤ x ∧ x < 256) ∧ ∀ G0, M.Blank G0 → M.R W G0 [] (V.canA (.one (.ro .u8 l))) v := by
  obtain ⟨a0, n0, cap0, rfl⟩ := okWide_slice Tryz.underlying22 hval
  obtain ⟨fuel, hf⟩ := h
  have hC := cells_byte
  rcases open_slice Tryz.underlying22 hf with ⟨hcs, _⟩ | ⟨a, len, cap, m, n, D, Pl, hcs, _, hlc, hcm, hm, _, hi⟩
  · simp [Value.cells] at hcs
    obtain ⟨rfl, rfl, rfl⟩ := hcs
    exact ⟨[], by simp, fun G0 _ => .tr0 (by simp)⟩
  · simp [Value.cells] at hcs
    obtain ⟨rfl, rfl, rfl⟩ := hcs
    simp only [if_true] at hm
    rw [hm] at hi
    clear hm
    have hg : ∀ i, i < cap0 → ∃ x : UInt8, W.cell? (a.add i) = some (.int .u8 (x.toNat : Int)) := by
      intro i hi'
      obtain ⟨cs, h1, h2⟩ := hi i hi'
      rw [hC] at h1
      obtain ⟨_, h3, h4⟩ := World.cells?_some h1
      obtain ⟨x, rfl⟩ := decByte _ _ _ h2
      refine ⟨x, ?_⟩
      have := h4 0 (by decide)
      simpa [Addr.add] using this
    obtain ⟨X, hX⟩ := choose_lt (α := UInt8) hg
    refine ⟨(List.range n0).map fun i => ((X i).toNat : Int), fun x hx => ?_, fun G0 hB => ?_⟩
    · obtain ⟨i, _, rfl⟩ := List.mem_map.1 hx
      have := (X i).toNat_lt
      omega
    · rcases Nat.eq_zero_or_pos cap0 with e | e
      · subst e
        obtain rfl : n0 = 0 := by omega
        exact .tr0 (by simp)
      · have h0 := hX 0 e
        have hs := World.cell?_spot h0
        obtain ⟨b, o, spot⟩ := a
        have hs : spot = none := by simpa [Addr.add] using hs
        subst hs
        have hcell : ∀ i, i < cap0 → W.cell? ⟨b, o + i, none⟩ = some (.int .u8 ((X i).toNat : Int)) := fun i hi => by
          have := hX i hi
          simp only [Addr.add] at this
          by_cases z : i = 0
          · subst z; simpa using this
          · simpa [z] using this
        obtain ⟨cells, T, fz, k1, _⟩ := cell_size (hcell 0 e)
        have k2 : o + cap0 ≤ cells.size := by
          obtain ⟨cells', T', fz', k3, k4⟩ := cell_size (hcell (cap0 - 1) (by omega))
          rw [k1] at k3
          injection k3 with k3
          injection k3 with k3 _ _
          subst k3
          omega
        have hlen : ((List.range n0).map fun i => ((X i).toNat : Int)).length = n0 := by simp
        show M.R W G0 [] (.tr false 1 ((List.range n0).map fun i => ((X i).toNat : Int)).length (V.encRow false .u8 ((List.range n0).map fun i => ((X i).toNat : Int)))) _
        rw [hlen]
        refine .tr (fun i j => .int .u8 ((X i).toNat : Int)) (fun e => by cases e) (fun _ => hB.1 b) ⟨cells, T, fz, k1, by omega, fun e => by cases e⟩ hlc hcm (fun i j hi hj => ?_) (fun i j hi hj => rfl) (fun i j hi hj => ?_)
        · obtain rfl : j = 0 := by omega
          simpa using hcell i (by omega)
        · obtain rfl : j = 0 := by omega
          have e : V.encRow false .u8 ((List.range n0).map fun i => ((X i).toNat : Int)) i 0 = .v (.int .u8 (((List.range n0).map fun i => ((X i).toNat : Int)).getD i (0 : Int))) := rfl
          rw [e]
          have e2 : ((List.range n0).map fun i => ((X i).toNat : Int)).getD i (0 : Int) = ((X i).toNat : Int) := by
            rw [List.getD_eq_getElem?_getD, List.getElem?_map, List.getElem?_range hi]
            rfl
          rw [e2]
          exact .v

theorem q1FnLeased (os : Os) : (World.plainHolding Tryz.checked.prog os ⟨#[], #[.slice none 0 0], []⟩).variablesB Tryz.checked.prog = true := by kernel_rfl
theorem q2FnLeased (os : Os) : ((World.plainHolding Tryz.checked.prog os ⟨#[], #[.slice none 0 0], []⟩).heap.toList.drop Tryz.checked.prog.globals.size).take ((begin Tryz.checked.prog (fun _ _ => 0) default).world.heap.size - Tryz.checked.prog.globals.size) =
      (begin Tryz.checked.prog (fun _ _ => 0) default).world.heap.toList.drop Tryz.checked.prog.globals.size := by kernel_rfl
theorem q3FnLeased (os : Os) : Input.okWideB Tryz.checked.prog (World.plainHolding Tryz.checked.prog os ⟨#[], #[.slice none 0 0], []⟩) 4 ⟨#[], #[.slice none 0 0], []⟩ = true := by kernel_rfl
theorem q4FnLeased (os : Os) (H : Type) (enc : TypeId × Value → H) : Rows.fnLeasedSpec.preB enc Tryz.checked.prog Tryz.f4 Rows.fnLeasedRow.domain false (World.plainHolding Tryz.checked.prog os ⟨#[], #[.slice none 0 0], []⟩).memory #[.slice none 0 0] 8 = true := by kernel_rfl
theorem q5FnLeased (os : Os) (H : Type) (enc : TypeId × Value → H) : Rows.fnLeasedSpec.sizedB enc Tryz.checked.prog Tryz.f4 false (World.plainHolding Tryz.checked.prog os ⟨#[], #[.slice none 0 0], []⟩).memory #[.slice none 0 0] 8 = true := by kernel_rfl
theorem witFnLeased (os : Os) (H : Type) (enc : TypeId × Value → H) : ∃ (w : World) (tape : Tape) (i : Input), w.os = os ∧ (w.forCall tape i).Shaped Tryz.checked.prog ∧ i.vars = [] ∧ Input.okWide Tryz.checked.prog (w.forCall tape i) .any w.heap.size 4 i ∧
      Rows.fnLeasedSpec.pre6 enc Tryz.checked.prog Tryz.f4 Rows.fnLeasedRow.domain false (w.forCall tape i).memory i.args ∧ ({} : Assume).holds Tryz.checked.prog (lone (Frame.enter Tryz.checked.prog 4 i.args .normal) [] (w.forCall tape i)) :=
    (ChangeSpec.witness6 (enc := enc) (C := Tryz.checked) false ⟨#[], #[.slice none 0 0], []⟩ 8 (q1FnLeased os) (q2FnLeased os) (q3FnLeased os) (q4FnLeased os H enc) (q5FnLeased os H enc))
theorem r1FnLeased : Tryz.checked.prog.inits.idxOf? 4 = none := by kernel_rfl
theorem r2FnLeased : ownKnob Tryz.checked.prog.godebug = none := Tryz.own0
theorem r3FnLeased : Tryz.checked.prog.funcs[4]? = some Tryz.f4 := Tryz.func4
theorem rdFnLeased0 : Tryz.prog.readableRec 22 = true ∧ 22 < Tryz.prog.types.size := ⟨by kernel_rfl, of_decide_eq_true (by kernel_rfl)⟩
theorem rsFnLeased : (Tryz.f4).resultTypes = #[4] := by kernel_rfl

set_option maxRecDepth 100000 in
theorem contractFnLeased (H : Type) (enc : TypeId × Value → H) (W : World) (base : Nat) (args : Array Value) (ds gs : List (DataW H)) (before : List MemPlace)
    (hval : ∀ (j : Nat) t v, (Tryz.f4).params[j]? = some t → args[j]? = some v → Value.okWide Tryz.prog W .any base t v)
    (hW : DataW.Whole enc Tryz.prog (Tryz.f4).params.toList Rows.fnLeasedSpec.vars false W args.toList ds gs before) :
    Calls Tryz.prog 4 args W fun e W' => ∃ v, e = .returned v ∧ Rows.fnLeasedSpec.post enc Tryz.prog Tryz.f4 false true false false W args v W' := by
  have hW' := hW
  obtain ⟨p, q, hA0, hV, rfl, hfz, hnd⟩ := hW
  have hA : DataW.TrodAll enc Tryz.prog W 0 (fun _ => true) true (Tryz.f4).params.toList args.toList ds p := hA0
  rw [Tryz.params4] at hA hval
  obtain ⟨v0, vs0, d0, ds0, p0, q0, hargs, rfl, rfl, h0, r0⟩ := trodAll_cons hA
  obtain ⟨rfl, rfl, rfl⟩ := trodAll_nil r0
  obtain rfl : args = #[v0] := by cases args; simp_all
  obtain ⟨l0, hl0, hR0⟩ := open_code (hval 0 22 v0 rfl rfl) h0
  refine ((V.FnLeased_t l0 hl0).run W #[v0] ⟨fun _ => [], fun _ => 0, fun _ => 0, fun _ => false⟩ ⟨fun _ => rfl, fun _ => rfl⟩ rfl (fun i m hm => ?_)).mono fun e W' ⟨c, G', he, hb, _, hr⟩ => ?_
  · match i, hm with
    | 0, hm =>
      injection hm with hm
      subst hm
      exact ⟨v0, rfl, hR0 _ ⟨fun _ => rfl, fun _ => rfl⟩⟩
  have hc : c = .bool true := by
    have hr : M.RC W' G' [0] (.v (.bool true)) c := hr
    cases hr
    rfl
  subst hc
  subst he
  refine ⟨_, rfl, law_post Tryz.laidOut0 ?_ rsFnLeased Tryz.underlying4 rfl hW' rfl hb⟩
  rw [Tryz.params4]
  intro t ht
  simp only [List.mem_cons, List.not_mem_nil, or_false] at ht
  subst ht
  exact rdFnLeased0

theorem liftedFnLeased (os : Os) (started : os.Started) (H : Type) (enc : TypeId × Value → H) :
    ReturnsInHanded {} Tryz.checked os 4 .any (Rows.fnLeasedSpec.pre6 enc Tryz.checked.prog Tryz.f4 Rows.fnLeasedRow.domain false) (Rows.fnLeasedSpec.post enc Tryz.checked.prog Tryz.f4 false true false false) := by
  refine returnsInHanded_of_change (C := Tryz.checked) r2FnLeased started r1FnLeased r3FnLeased (witFnLeased os H enc) ?_
  rw [Tryz.progEq0]
  intro W base args ds gs before hval hW hcnd _
  exact contractFnLeased H enc W base args ds gs before @hval hW

theorem lifted2FnLeased (os : Os) (started : os.Started) (H : Type) (enc : TypeId × Value → H) :
    ReturnsInHanded {} Tryz.checked os 4 .any (Rows.fnLeasedSpec.pre6 enc Tryz.prog Tryz.f4 Rows.fnLeasedRow.domain false) (Rows.fnLeasedSpec.post enc Tryz.prog Tryz.f4 false true false false) := by
  have h := liftedFnLeased os started H enc
  rw [Tryz.progEq0] at h
  exact h

theorem FnLeased_holds : Rows.FnLeasedSaid :=
  OpenClaim.holds_of_wide 4 Tryz.f4 rfl rfl rfl rfl rfl rfl rfl ⟨rfl, rfl, rfl, rfl, rfl⟩ rfl rfl rfl rfl rfl (by kernel_rfl) Tryz.func4 (by kernel_rfl)
    (of_decide_eq_true (by kernel_rfl)) (by unfold Func.isWrapper; first | (rw [if_pos (by decide +kernel)]; kernel_rfl) | (rw [if_neg (by decide +kernel)]; exact ⟨rfl, rfl⟩))
    (fun os started H enc _ => lifted2FnLeased os started H enc)
#print axioms FnLeased_holds

end Go.Proofs.YtiimdlkeikcfiaaGreat
