/- Functions: from their code to their contract. -/
import Derived.Test.YtiimdlkeikcfiaaGreatMO
namespace Go.Proofs.YtiimdlkeikcfiaaGreat.M
open Go.RowKit

section
variable {P : Program} {T : TyT}

def resL (T : TyT) (st : St) : List ResultVar → (List MV → Prop) → Prop
  | [], K => K []
  | .tmp t :: r, K => resL T st r (fun l => K (st.tm t :: l))
  | .cell a t :: r, K => match T t with
    | some i => match (i.kd.agg || Nat.beq i.sz 1) with
      | true => match st.tm a with
        | .ptr (n :: p) ver sz q j => ver = st.vr n ∧ nodeP st.bl (n :: p) (fun b => (b.sz = sz ∧ q < b.len ∧ j + i.sz ≤ sz) ∧ resL T st r (fun l => K (loadM i (fun d => liftM ver (n :: p ++ [q, j + d]) (b.f q (j + d))) :: l)))
        | _ => False
      | false => False
    | none => False

def resOne (P : Program) (tmps : Array Value) : ResultVar → Sem Value
  | .tmp t => pure (tmps.getD t undef)
  | .cell a t => do loadVar t (← asAddr (tmps.getD a undef))

theorem resL_ok (hT : TOk P T) {st : St} : ∀ (rs : List ResultVar) {K : List MV → Prop}, resL T st rs K → ∃ l, K l ∧ l.length = rs.length ∧ ∀ {w0 : World} {O : Own} {a : Act} {w : World} {G : Gh}, Inv w0 O st a w G →
    ∃ cs : List Value, cs.length = rs.length ∧ (rs.mapM (resOne P a.tmps)).run P w = .ok cs w ∧ ∀ (i : Nat) (m : MV), l[i]? = some m → ∃ c, cs[i]? = some c ∧ R w G [] m c
  | [], K, h => ⟨[], h, rfl, fun _ => ⟨[], rfl, by simp, fun i m h => by simp at h⟩⟩
  | .tmp t :: r, K, h => by
    obtain ⟨l, h1, h2, h3⟩ := resL_ok hT r h
    refine ⟨st.tm t :: l, h1, by simp [h2], fun {w0 O a w G} hI => ?_⟩
    obtain ⟨cs, c1, c2, c3⟩ := h3 hI
    refine ⟨a.tmps.getD t undef :: cs, by simp [c1], by simp [List.mapM_cons, resOne, c2], fun i m hm => ?_⟩
    cases i with
    | zero =>
      simp only [List.getElem?_cons_zero, Option.some.injEq] at hm ⊢
      subst hm
      exact ⟨_, rfl, hI.tm t⟩
    | succ i => simpa using c3 i m (by simpa using hm)
  | .cell b t :: r, K, h => by
    unfold resL at h
    split at h
    · rename_i i hi
      split at h
      · rename_i hz
        have hz' : i.kd.agg = false → i.sz = 1 := fun e => by rw [e] at hz; simpa using hz
        split at h
        · rename_i n p ver sz q j hp
          obtain ⟨hv, hn⟩ := h
          obtain ⟨_, _, b0, bb, _, _, hb, _, hn'⟩ := nodeP_at hn
          obtain ⟨l, h1, h2, h3⟩ := resL_ok hT r hb.2
          refine ⟨_, h1, by simp [h2], fun {w0 O a w G} hI => ?_⟩
          obtain ⟨cs, c1, c2, c3⟩ := h3 hI
          obtain ⟨c, hc, hR⟩ := gives_load (P := P) (o := ⟨none, .load t (.tmp b), 0, "", #[], none⟩) (x := .tmp b) rfl (hT _ _ hi) hz' hp hv hn' hb.1 w0 O a w G hI
          have hrun : (resOne P a.tmps (.cell b t)).run P w = .ok c w := by
            have e1 := hI.tm b
            rw [show st.tm b = .ptr (n :: p) ver sz q j from hp] at e1
            generalize hq : a.tmps.getD b undef = v at e1
            cases e1 with
            | ptr hs hv' =>
              simp only [execOp, Act.eval, hq, Instr.loadAt, Instr.sureAddr, Sem.run_bind, Sem.run_pure, Result.andThen_ok] at hc
              simp only [resOne, hq, asAddr, Sem.run_bind, Sem.run_pure, Result.andThen_ok]
              generalize (loadVar t _).run P w = rr at hc
              cases rr with
              | ok v w' => simp only [Result.andThen_ok, Result.ok.injEq, Next.value.injEq] at hc; rw [hc.1, hc.2]
              | halt hh w' => cases hc
          refine ⟨c :: cs, by simp [c1], by simp [List.mapM_cons, hrun, c2], fun k m hm => ?_⟩
          cases k with
          | zero =>
            simp only [List.getElem?_cons_zero, Option.some.injEq] at hm ⊢
            subst hm
            exact ⟨_, rfl, hR⟩
          | succ k => simpa using c3 k m (by simpa using hm)
        · cases h
      · cases h
    · cases h

def tupM (l : List MV) : MV :=
  match l with
  | [m] => m
  | l => .tup l.length (fun i => l.getD i .any)

/-- At the end of a function: its result. -/
def retP (T : TyT) (rs : List ResultVar) (res : MV) (st : St) : Prop :=
  resL T st rs (fun l => szOkM (tupM l) = true ∧ colM st.bl st.vr (tupM l) res (fun L => tookB L = true))

theorem resL_mono {st : St} : ∀ {rs : List ResultVar} {K K' : List MV → Prop}, (∀ l, K l → K' l) → resL T st rs K → resL T st rs K'
  | [], _, _, h1, h2 => h1 _ h2
  | .tmp t :: r, _, _, h1, h2 => resL_mono (rs := r) (fun l h => h1 _ h) h2
  | .cell a t :: r, K, K', h1, h2 => by
    unfold resL at h2 ⊢
    split at h2
    · split at h2
      · split at h2
        · exact ⟨h2.1, nodeP_mono (fun b hb => ⟨hb.1, resL_mono (fun l h => h1 _ h) hb.2⟩) h2.2⟩
        · cases h2
      · cases h2
    · cases h2
/-- .. what is to be known of it. -/
def retQ (T : TyT) (rs : List ResultVar) (res : MV) (st : St) : Prop :=
  resL T st rs (fun l => ∀ (w0 : World) (a : Act) (w : World) (G : Gh), Inv w0 Own.no st a w G → ∀ c, R w G [] (tupM l) c → ∃ G', Fresh w0 w G' ∧ Rr w G' res c)
theorem retP.q {rs : List ResultVar} {res : MV} {st : St} (h : retP T rs res st) : retQ T rs res st :=
  resL_mono (fun l h w0 a w G hI c hR => colM_ok hI h.2 h.1 hR) h

def st0 (args : List MV) (V : Nat → Nat) (nt : Nat) : St := ⟨fun t => args.getD t .any, fun _ => none, V, nt⟩

def valL : List Value → Value
  | [c] => c
  | cs => .tuple cs.toArray

theorem results_run {fn : Func} {tmps : Array Value} {cs : List Value} {w : World} (h : (fn.results.toList.mapM (resOne P tmps)).run P w = .ok cs w) : (results fn tmps).run P w = .ok (valL cs) w := by
  change (do let vs ← fn.results.mapM (resOne P tmps); pure (if h : vs.size = 1 then vs[0] else .tuple vs)).run P w = _
  rw [Sem.run_bind, Array.mapM_eq_mapM_toList]
  simp only [Sem.run_map, h]
  rcases cs with _ | ⟨c, _ | ⟨d, cs⟩⟩
  · rfl
  · rfl
  · rfl

/-- A run of a function, out of its code. -/
theorem TC.run_of (hT : TOk P T) {f : FuncId} {fn : Func} {c : Code} {args : List MV} {res : MV} (hf : P.funcs[f]? = some fn) (hn : (fn.name == "runtime.NumGoroutine") = false) (hb : fn.body = some c) {V : Nat → Nat} {G0 : Gh} (hV : ∀ n, G0.ver n = V n)
    (h : MW P c (st0 args V fn.ntmps) (fun e st => (e = .normal ∨ e = .ret) ∧ retQ T fn.results.toList res st)) (w : World) (cargs : Array Value) (hB : Blank G0) (hsz : cargs.size = args.length) (hargs : ∀ (i : Nat) (m : MV), args[i]? = some m → ∃ c, cargs[i]? = some c ∧ R w G0 [] m c) :
    Calls P f cargs w fun e w' => ∃ c G', e = .returned c ∧ Below w.heap.size w w' ∧ Fresh w w' G' ∧ Rr w' G' res c := by
  obtain rfl : G0.ver = V := funext hV
  refine calls_of_wp hf hb ?_
  have hI : Inv w Own.no (st0 args G0.ver fn.ntmps) { tmps := cargs ++ Array.replicate (fn.ntmps - cargs.size) undef, defers := [] } w G0 := by
    refine ⟨fun t => ?_, fun n b h => (by cases h), fun β h => absurd (hB.1 β) h, fun _ => rfl, fun β _ h => absurd (hB.1 β) h, ⟨rfl, rfl, rfl, Nat.le_refl _, fun _ _ _ => rfl⟩, Nat.le_trans (Nat.mod_le _ _) (by simp [st0]; omega), rfl, fun v hv => by cases hv⟩
    simp only [st0]
    cases ht : args[t]? with
    | none => rw [List.getD_eq_getElem?_getD, ht]; exact .any
    | some m =>
      obtain ⟨c, hc, hr⟩ := hargs t m ht
      rw [List.getD_eq_getElem?_getD, ht]
      have hlt := (Array.getElem?_eq_some_iff.1 hc).1
      have : (cargs ++ Array.replicate (fn.ntmps - cargs.size) undef).getD t undef = c := by
        rw [Array.getD_eq_getD_getElem?, Array.getElem?_append_left hlt, hc]; rfl
      rw [this]
      exact hr
  refine h.run w _ _ w G0 _ hI (fun e st' a' w' G' hq hI' => ?_)
  obtain ⟨he, hret⟩ := hq
  have key : a'.defers = [] ∧ ∃ v, (results fn a'.tmps).run P w' = .ok v w' ∧ ∃ c G', Ending.returned v = .returned c ∧ Below w.heap.size w w' ∧ Fresh w w' G' ∧ Rr w' G' res c := by
    refine ⟨hI'.df, ?_⟩
    obtain ⟨l, h2, h3, h4⟩ := resL_ok hT fn.results.toList hret
    obtain ⟨cs, c1, c2, c3⟩ := h4 hI'
    refine ⟨_, results_run c2, ?_⟩
    have hR : R w' G' [] (tupM l) (valL cs) := by
      have hlen : l.length = cs.length := by rw [h3, c1]
      rcases l with _ | ⟨m, _ | ⟨m2, l⟩⟩ <;> rcases cs with _ | ⟨c, _ | ⟨c', cs⟩⟩ <;> try (simp at hlen; done)
      · exact .tup rfl (fun _ => undef) (fun i hi => by simp at hi) (fun i hi => by simp at hi)
      · obtain ⟨u, u1, u2⟩ := c3 0 m rfl
        simp only [List.getElem?_cons_zero, Option.some.injEq] at u1
        subst u1
        exact u2
      · refine .tup (by simp at hlen ⊢; omega) (fun i => (c :: c' :: cs).getD i undef) (fun i hi => ?_) (fun i hi => ?_)
        · have : i < (c :: c' :: cs).length := by rw [← hlen]; exact hi
          rw [List.getD_eq_getElem?_getD, List.getElem?_toArray, List.getElem?_eq_getElem this]
          rfl
        · obtain ⟨u, u1, u2⟩ := c3 i ((m :: m2 :: l)[i]'hi) (List.getElem?_eq_getElem hi)
          rw [List.getD_eq_getElem?_getD, List.getElem?_eq_getElem hi, List.getD_eq_getElem?_getD, u1]
          exact u2
    obtain ⟨G2, g1, g2⟩ := h2 _ _ _ _ hI' _ hR
    exact ⟨_, G2, rfl, ⟨hI'.fr.os, hI'.fr.tape, hI'.fr.output, hI'.fr.size, fun k hk => hI'.fr.block k hk (fun h => h)⟩, g1, g2⟩
  rcases he with rfl | rfl
  · exact key
  · exact key

/-- A CONTRACT OUT OF THE CODE. -/
theorem TC.of_code (hT : TOk P T) {f : FuncId} {fn : Func} {c : Code} {args : List MV} {res : MV} (hf : P.funcs[f]? = some fn) (hn : (fn.name == "runtime.NumGoroutine") = false) (hb : fn.body = some c)
    (h : ∀ V : Nat → Nat, MW P c (st0 args V fn.ntmps) (fun e st => (e = .normal ∨ e = .ret) ∧ retP T fn.results.toList res st)) : TC P f args res :=
  ⟨⟨fn, hf, hn, by rw [hb]; rfl⟩, fun w cargs G0 hB hsz hargs => TC.run_of hT hf hn hb (fun _ => rfl) ((h G0.ver).mono fun e st h => ⟨h.1, h.2.q⟩) w cargs hB hsz hargs⟩

end

end Go.Proofs.YtiimdlkeikcfiaaGreat.M
