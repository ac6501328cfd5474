/- Code, reckoned in one go; results; contracts whose names are counted from nought. -/
import Derived.Test.YtiimdlkeikcfiaaGreatMR
namespace Go.Proofs.YtiimdlkeikcfiaaGreat.M
open Go.RowKit

section
variable {P : Program} {T : TyT}

def thenC (K : St → Prop) (Q : Exit → St → Prop) (e : Exit) (st : St) : Prop :=
  match e with
  | .normal => K st
  | e => Q e st

def blockC (id : Nat) (Q : Exit → St → Prop) (e : Exit) (st : St) : Prop :=
  match e with
  | .exit id' => match Nat.beq id' id with
    | true => Q .normal st
    | false => Q (.exit id') st
  | e => Q e st

/-- A number among others. -/
def memB (n : Nat) (l : List Nat) : Bool :=
  match l with
  | [] => false
  | m :: r => match Nat.beq n m with
    | true => true
    | false => memB n r

/-- Code, reckoned; it stops at loops, and before the regions that are named. -/
def goC (P : Program) (T : TyT) (sp : List Nat) (c : Code) (st : St) (Q : Exit → St → Prop) : Prop :=
  match c with
  | .skip => Q .normal st
  | .exit id => Q (.exit id) st
  | .ret => Q .ret st
  | .seq x y => goC P T sp x st (thenC (fun st' => goC P T sp y st' Q) Q)
  | .cond c x y => match evS st.tm c with
    | .v (.bool b) => brP b (goC P T sp x st Q) (goC P T sp y st Q)
    | _ => False
  | .block id c => goC P T sp c st (blockC id Q)
  | .loop c => MW P (.loop c) st Q
  | .region id ops d => match memB id sp with
    | true => MW P (.region id ops d) st Q
    | false => match d with
      | false => runF P T ops ops.toList st (fun st' => Q .normal st')
      | true => sideP (P.follows .mixedOrders) (runG P T ops 0 ops.toList st [] (fun acc st' => sideP (checkD ops acc.reverse) (Q .normal st')))
  | _ => False

theorem goC_ok (hT : TOk P T) {sp : List Nat} : ∀ (c : Code) {st : St} {Q : Exit → St → Prop}, goC P T sp c st Q → MW P c st Q
  | .skip, _, _, h => MW.skip h
  | .exit _, _, _, h => MW.exit h
  | .ret, _, _, h => MW.ret h
  | .seq x y, st, Q, h => by
    refine MW.seq ((goC_ok hT x h).mono fun e st h => ?_)
    cases e with
    | normal => exact goC_ok hT y h
    | _ => exact h
  | .cond c x y, st, Q, h => by
    unfold goC at h
    split at h
    · rename_i b hb
      refine MW.cond hb ?_
      cases b
      · exact ⟨fun e => (by cases e), fun _ => goC_ok hT y h⟩
      · exact ⟨fun _ => goC_ok hT x h, fun e => (by cases e)⟩
    · cases h
  | .block id c, st, Q, h => by
    refine MW.block ((goC_ok hT c h).mono fun e st h => ?_)
    cases e with
    | exit id' =>
      simp only [blockC] at h
      unfold blockM
      by_cases e : id' = id
      · subst e; rw [beq_yes] at h; exact .inl ⟨rfl, h⟩
      · rw [beq_no e] at h; exact .inr ⟨e, h⟩
    | _ => exact h
  | .loop c, _, _, h => h
  | .region id ops d, st, Q, h => by
    unfold goC at h
    cases e : memB id sp with
    | true => rw [e] at h; exact h
    | false =>
      rw [e] at h
      cases d with
      | false => exact MW.reg hT h
      | true => exact MW.drw hT h.ok.1 h.ok.2
  | .rangeFunc .., _, _, h => h.elim
  | .scope .., _, _, h => h.elim
  | .label .., _, _, h => h.elim
  | .goto .., _, _, h => h.elim

/-! ### Results -/
def resC (T : TyT) (st : St) (rs : List ResultVar) (K : List MV → Prop) : Prop :=
  match rs with
  | [] => K []
  | .tmp t :: r => frc (st.tm t) fun m => resC T st r (fun l => K (m :: l))
  | .cell a t :: r => match T t with
    | some i => match (i.kd.agg || Nat.beq i.sz 1) with
      | true => match st.tm a with
        | .ptr (n :: p) ver sz q j => sideP (Nat.beq ver (st.vr n)) (nodeC st.bl (n :: p) (fun b => sideP (Nat.beq b.sz sz) (sideP (Nat.blt q b.len) (sideP (Nat.ble (j + i.sz) sz) (resC T st r (fun l => K (loadM i (fun d => liftM ver (n :: p ++ [q, j + d]) (b.f q (j + d))) :: l)))))))
        | _ => False
      | false => False
    | none => False

theorem nodeP_of {bl : Nat → Option Blk} {k : List Nat} {b : Blk} {K : Blk → Prop} (h : nodeP bl k (fun x => x = b)) (hk : K b) : nodeP bl k K := nodeP_mono (fun x e => by subst e; exact hk) h

theorem resC_ok {st : St} : ∀ (rs : List ResultVar) {K : List MV → Prop}, resC T st rs K → resL T st rs K
  | [], _, h => h
  | .tmp t :: r, K, h => by
    unfold resC at h
    rw [frc_eq] at h
    exact resC_ok r h
  | .cell a t :: r, K, h => by
    unfold resC at h
    unfold resL
    split at h
    · rename_i i hi
      split at h
      · rename_i hz
        split at h
        · rename_i n p ver sz q j hp
          obtain ⟨hv, h⟩ := h.eq
          obtain ⟨b, hb, hn, _⟩ := nodeC_at h
          obtain ⟨b1, hb⟩ := hb.eq
          obtain ⟨b2, hb⟩ := hb.lt
          obtain ⟨b3, hb⟩ := hb.le
          simp only [hi, hz, hp]
          exact ⟨hv, nodeP_of hn ⟨⟨b1, b2, b3⟩, resC_ok r hb⟩⟩
        · cases h
      · cases h
    · cases h

/-- A part that is given away: what is known of it is what is told. -/
def colC (bl : Nat → Option Blk) (vr : Nat → Nat) (q : Nat) (m m' : MV) (L : Took) (K : Took → Prop) : Prop :=
  match m' with
  | .any => K L
  | .v c' => match m with
    | .v c => c = c' ∧ K L
    | _ => False
  | .tr true sz' len' g => match m with
    | .v (.slice none 0 0) => len' = 0 ∧ K L
    | .ref (n :: p) ver sz 0 len => sideP (Nat.beq ver (vr n)) (nodeC bl (n :: p) (fun b => sideP (Nat.beq b.sz sz) (sideP (Nat.beq sz sz') (len = len' ∧ len' ≤ b.len ∧ (∀ i j, i < len' → j < sz → Sub (cleanO (b.f i j)) (g i j)) ∧ K ((q, n :: p) :: L)))))
    | _ => False
  | _ => False

theorem colC_ok {bl : Nat → Option Blk} {vr : Nat → Nat} {q : Nat} {m m' : MV} {L : Took} {K : Took → Prop} (h : colC bl vr q m m' L K) : ∃ L1, Col bl vr q m m' L1 ∧ K (L1 ++ L) := by
  unfold colC at h
  split at h
  · exact ⟨[], .any, h⟩
  · split at h
    · exact ⟨[], .v h.1, h.2⟩
    · cases h
  · split at h
    · obtain ⟨rfl, h⟩ := h
      exact ⟨[], .nil, h⟩
    · rename_i n p ver sz len
      obtain ⟨hv, h⟩ := h.eq
      obtain ⟨b, hb, hn, _⟩ := nodeC_at h
      obtain ⟨b1, hb⟩ := hb.eq
      obtain ⟨b2, hb2⟩ := hb.eq
      subst b2
      exact ⟨[(q, n :: p)], .ref hv hb2.1 hn ⟨b1, hb2.2.1⟩ (fun i j hi hj => .of_sub (hb2.2.2.1 i j hi hj)), hb2.2.2.2⟩
    · cases h
  · cases h

def colCN (bl : Nat → Option Blk) (vr : Nat → Nat) (b : Nat) (f g : Nat → MV) : Nat → Took → (Took → Prop) → Prop
  | 0, L, K => K L
  | n + 1, L, K => colCN bl vr b f g n L (fun L => frc (f n) fun m => colC bl vr (b + n) m (g n) L K)

theorem colCN_ok {bl : Nat → Option Blk} {vr : Nat → Nat} {b : Nat} {f g : Nat → MV} : ∀ (n : Nat) {L : Took} {K : Took → Prop}, colCN bl vr b f g n L K → colN bl vr b f g n L K
  | 0, _, _, h => h
  | n + 1, L, K, h => by
    have e : (fun L => frc (f n) fun m => colC bl vr (b + n) m (g n) L K) = fun L => colC bl vr (b + n) (f n) (g n) L K := by
      funext L; rw [frc_eq]
    unfold colCN at h
    rw [e] at h
    unfold colN
    exact colN_mono (colCN_ok n h)
where
  colN_mono {bl : Nat → Option Blk} {vr : Nat → Nat} {b n : Nat} {f g : Nat → MV} {x : Nat} {m m' : MV} {L : Took} {K : Took → Prop} (h : colN bl vr b f g n L (fun L => colC bl vr x m m' L K)) : colN bl vr b f g n L (fun L => ∃ L1, Col bl vr x m m' L1 ∧ K (L1 ++ L)) := by
    have key : ∀ (n : Nat) {L : Took} {K K' : Took → Prop}, (∀ L, K L → K' L) → colN bl vr b f g n L K → colN bl vr b f g n L K' := by
      intro n
      induction n with
      | zero => exact fun h1 h2 => h1 _ h2
      | succ n ih => exact fun h1 h2 => ih (fun L ⟨L1, a1, a2⟩ => ⟨L1, a1, h1 _ a2⟩) h2
    exact key n (fun L hL => colC_ok hL) h

def col1C (bl : Nat → Option Blk) (vr : Nat → Nat) (b : Nat) (m m' : MV) (L : Took) (K : Took → Prop) : Prop :=
  match m' with
  | .agg n' g => match m with
    | .agg n f => sideP (Nat.beq n n') (colCN bl vr b f g n L K)
    | _ => False
  | m' => colC bl vr b m m' L K

theorem col1C_ok {bl : Nat → Option Blk} {vr : Nat → Nat} {b : Nat} {m m' : MV} {L : Took} {K : Took → Prop} (h : col1C bl vr b m m' L K) : col1 bl vr b m m' L K := by
  unfold col1C at h
  unfold col1
  split at h
  · rename_i n' g
    split at h
    · rename_i n f
      exact ⟨h.ok.1, colCN_ok _ h.ok.2⟩
    · cases h
  · rename_i hne
    split
    · exact absurd rfl (hne _ _)
    · exact colC_ok h

def colTC (bl : Nat → Option Blk) (vr : Nat → Nat) (f g : Nat → MV) : Nat → Took → (Took → Prop) → Prop
  | 0, L, K => K L
  | n + 1, L, K => colTC bl vr f g n L (fun L => frc (f n) fun m => frc (g n) fun m' => col1C bl vr (64 * n) m m' L K)

theorem colT_mono {bl : Nat → Option Blk} {vr : Nat → Nat} {f g : Nat → MV} : ∀ (n : Nat) {L : Took} {K K' : Took → Prop}, (∀ L, K L → K' L) → colT bl vr f g n L K → colT bl vr f g n L K'
  | 0, _, _, _, h1, h2 => h1 _ h2
  | n + 1, _, _, _, h1, h2 => by
    unfold colT at h2 ⊢
    refine colT_mono n (fun L hL => ?_) h2
    have key : ∀ (m : Nat) {b : Nat} {f g : Nat → MV} {L : Took} {K K' : Took → Prop}, (∀ L, K L → K' L) → colN bl vr b f g m L K → colN bl vr b f g m L K' := by
      intro n
      induction n with
      | zero => exact fun h1 h2 => h1 _ h2
      | succ n ih => exact fun h1 h2 => ih (fun L ⟨L1, a1, a2⟩ => ⟨L1, a1, h1 _ a2⟩) h2
    unfold col1 at hL ⊢
    split at hL
    · exact ⟨hL.1, key _ h1 hL.2⟩
    · obtain ⟨L1, a1, a2⟩ := hL
      exact ⟨L1, a1, h1 _ a2⟩

theorem colTC_ok {bl : Nat → Option Blk} {vr : Nat → Nat} {f g : Nat → MV} : ∀ (n : Nat) {L : Took} {K : Took → Prop}, colTC bl vr f g n L K → colT bl vr f g n L K
  | 0, _, _, h => h
  | n + 1, L, K, h => by
    have e : (fun L => frc (f n) fun m => frc (g n) fun m' => col1C bl vr (64 * n) m m' L K) = fun L => col1C bl vr (64 * n) (f n) (g n) L K := by
      funext L; rw [frc_eq, frc_eq]
    unfold colTC at h
    rw [e] at h
    exact colT_mono n (fun L hL => col1C_ok hL) (colTC_ok n h)

def colMC (bl : Nat → Option Blk) (vr : Nat → Nat) (m m' : MV) (K : Took → Prop) : Prop :=
  match m' with
  | .tup n' g => match m with
    | .tup n f => sideP (Nat.beq n n') (colTC bl vr f g n [] K)
    | _ => False
  | m' => col1C bl vr 0 m m' [] K

theorem colMC_ok {bl : Nat → Option Blk} {vr : Nat → Nat} {m m' : MV} {K : Took → Prop} (h : colMC bl vr m m' K) : colM bl vr m m' K := by
  unfold colMC at h
  unfold colM
  split at h
  · split at h
    · exact ⟨h.ok.1, colTC_ok _ h.ok.2⟩
    · cases h
  · rename_i hne
    split
    · exact absurd rfl (hne _ _)
    · exact col1C_ok h

def retC (T : TyT) (rs : List ResultVar) (res : MV) (e : Exit) (st : St) : Prop :=
  match e with
  | .normal | .ret => resC T st rs (fun l => sideP (szOkM (tupM l)) (frc res fun res => colMC st.bl st.vr (tupM l) res (fun L => sideP (tookB L) True)))
  | _ => False

theorem retC_ok {rs : List ResultVar} {res : MV} {e : Exit} {st : St} (h : retC T rs res e st) : (e = .normal ∨ e = .ret) ∧ retP T rs res st := by
  have key : resC T st rs (fun l => sideP (szOkM (tupM l)) (frc res fun res => colMC st.bl st.vr (tupM l) res (fun L => sideP (tookB L) True))) → retP T rs res st := by
    intro h
    unfold retP
    have := resC_ok rs h
    have mono : ∀ (rs : List ResultVar) {K K' : List MV → Prop}, (∀ l, K l → K' l) → resL T st rs K → resL T st rs K' := by
      intro rs
      induction rs with
      | nil => exact fun h1 h2 => h1 _ h2
      | cons r rs ih =>
        intro K K' h1 h2
        cases r with
        | tmp t => exact ih (fun l h => h1 _ h) h2
        | cell a t =>
          unfold resL at h2 ⊢
          split at h2
          · rename_i i hi
            split at h2
            · rename_i hz
              split at h2
              · rename_i n p ver sz q j hp
                exact ⟨h2.1, nodeP_mono (fun b hb => ⟨hb.1, ih (fun l h => h1 _ h) hb.2⟩) h2.2⟩
              · cases h2
            · cases h2
          · cases h2
    refine mono rs (fun l hl => ⟨hl.ok.1, ?_⟩) this
    have h2 := hl.ok.2
    rw [frc_eq] at h2
    have e : (fun L => sideP (tookB L) True) = fun L => tookB L = true := by
      funext L
      exact propext ⟨fun h => h.ok.1, fun h => side h trivial⟩
    rw [e] at h2
    exact colMC_ok h2
  unfold retC at h
  split at h
  · exact ⟨.inl rfl, key h⟩
  · exact ⟨.inr rfl, key h⟩
  · cases h

class NR (m : MV) : Prop where
  nr : NoRef m
class NRL (l : List MV) : Prop where
  nr : ∀ m ∈ l, NoRef m
instance : NRL [] := ⟨by simp⟩
instance {m : MV} {l : List MV} [h : NR m] [k : NRL l] : NRL (m :: l) := ⟨fun x hx => by
  rcases List.mem_cons.1 hx with rfl | hx
  · exact h.nr
  · exact k.nr x hx⟩
instance {c : Value} : NR (.v c) := ⟨.v⟩
instance : NR .any := ⟨.any⟩

theorem TC.nought {f : FuncId} {args : List MV} {res : MV} [hn : NRL args] (hf : FnOk P f) (h : ∀ (w : World) (cargs : Array Value) (G0 : Gh), Blank G0 → (∀ n, G0.ver n = 0) → cargs.size = args.length → (∀ (i : Nat) (m : MV), args[i]? = some m → ∃ c, cargs[i]? = some c ∧ R w G0 [] m c) →
    Calls P f cargs w fun e w' => ∃ c G', e = .returned c ∧ Below w.heap.size w w' ∧ Fresh w w' G' ∧ Rr w' G' res c) : TC P f args res :=
  ⟨hf, fun w cargs G0 hB hsz ha => h w cargs ⟨G0.key, G0.base, fun _ => 0, G0.zero⟩ hB (fun _ => rfl) hsz (fun i m hm => by
    obtain ⟨c, h1, h2⟩ := ha i m hm
    exact ⟨c, h1, R.noref (G := G0) (hn.nr m (List.mem_of_getElem? hm)) rfl rfl rfl h2⟩)⟩

def argT (args : List MV) (t : Nat) : MV :=
  match args with
  | [] => .any
  | m :: r => match t with
    | 0 => m
    | t + 1 => argT r t

theorem argT_eq : ∀ (args : List MV) (t : Nat), argT args t = args.getD t .any
  | [], _ => by simp [argT]
  | m :: r, 0 => by simp [argT]
  | m :: r, t + 1 => by simp [argT, argT_eq r t]

def stA (args : List MV) (nt : Nat) : St := ⟨argT args, fun _ => none, fun _ => 0, nt⟩

/-- A CONTRACT OUT OF THE CODE, reckoned. -/
theorem TC.goS (hT : TOk P T) (sp : List Nat) {f : FuncId} {fn : Func} {c : Code} {args : List MV} {res : MV} [NRL args] (hf : P.funcs[f]? = some fn) (hn : (fn.name == "runtime.NumGoroutine") = false) (hb : fn.body = some c)
    (h : goC P T sp c (stA args fn.ntmps) (retC T fn.results.toList res)) : TC P f args res := by
  refine TC.nought ⟨fn, hf, hn, by rw [hb]; rfl⟩ fun w cargs G0 hB hv hsz ha => ?_
  refine TC.run_of hT hf hn hb (V := fun _ => 0) hv ?_ w cargs hB hsz ha
  have e : stA args fn.ntmps = st0 args (fun _ => 0) fn.ntmps := by
    unfold stA st0
    congr 1
    funext t
    exact argT_eq args t
  rw [← e]
  exact (goC_ok hT c h).mono fun e st hq => ⟨(retC_ok hq).1, (retC_ok hq).2.q⟩

theorem TC.go (hT : TOk P T) {f : FuncId} {fn : Func} {c : Code} {args : List MV} {res : MV} [NRL args] (hf : P.funcs[f]? = some fn) (hn : (fn.name == "runtime.NumGoroutine") = false) (hb : fn.body = some c)
    (h : goC P T [] c (stA args fn.ntmps) (retC T fn.results.toList res)) : TC P f args res := TC.goS hT [] hf hn hb h

/-! ### Functions that write through a pointer -/
def retPC (T : TyT) (rs : List ResultVar) (sz : Nat) (post : Nat → MV) (res : MV) (e : Exit) (st : St) : Prop :=
  match e with
  | .normal | .ret => match st.tm 0 with
    | .ptr [9999] ver sz' 0 0 => sideP (Nat.beq ver (st.vr 9999)) (sideP (Nat.beq sz' sz) (match st.bl 9999 with
      | some b => sideP (Nat.beq b.sz sz) (sideP (Nat.blt 0 b.len) ((∀ j, j < sz → Sub (clean (b.f 0 j)) (post j)) ∧ resC T st rs (fun l => flatM (tupM l) res)))
      | none => False))
    | _ => False
  | _ => False

def stP (sz : Nat) (pre : Nat → MV) (as : List MV) (nt : Nat) : St :=
  ⟨fun t => match t with
    | 0 => .ptr [9999] 0 sz 0 0
    | t + 1 => argT as t, fun x => match Nat.beq x 9999 with
    | true => some ⟨sz, 1, fun _ j => pre j⟩
    | false => none, fun _ => 0, nt + 1000000⟩

theorem PC.go (hT : TOk P T) (sp : List Nat) {f : FuncId} {fn : Func} {c : Code} {sz : Nat} {pre post : Nat → MV} {as : List MV} {res : MV} (hf : P.funcs[f]? = some fn) (hn : (fn.name == "runtime.NumGoroutine") = false) (hb : fn.body = some c) (hsz : 0 < sz) (hflat : Flat res) (hpost : ∀ j, j < sz → OwnOnly (post j))
    (h : goC P T sp c (stP sz pre as fn.ntmps) (retPC T fn.results.toList sz post res)) : PC P f sz pre as post res := by
  refine ⟨⟨fn, hf, hn, by rw [hb]; rfl⟩, hflat, hpost, fun w cargs G0 β0 hown hinj hver hk0 hcs hc0 hbox hargs => ?_⟩
  refine calls_of_wp hf hb ?_
  have h0lt : 0 < cargs.size := by omega
  have hget : ∀ (i : Nat) (c : Value), cargs[i]? = some c → (cargs ++ Array.replicate (fn.ntmps - cargs.size) undef).getD i undef = c := fun i c hc => by
    have hlt := (Array.getElem?_eq_some_iff.1 hc).1
    rw [Array.getD_eq_getD_getElem?, Array.getElem?_append_left hlt, hc]; rfl
  have hI : Inv w ⟨fun β => G0.key β ≠ [], some (.pointer (some ⟨β0, G0.base β0, none⟩))⟩ (stP sz pre as fn.ntmps) { tmps := cargs ++ Array.replicate (fn.ntmps - cargs.size) undef, defers := [] } w G0 := by
    refine ⟨fun t => ?_, fun n b hb => ?_, fun β h => ⟨(hown β h).1, fun _ => h⟩, hver, hinj, ⟨rfl, rfl, rfl, Nat.le_refl _, fun _ _ _ => rfl⟩, ?_, rfl, fun v hv => ?_⟩
    · simp only [stP]
      cases t with
      | zero =>
        rw [hget 0 _ hc0]
        refine .ptr (Nat.zero_le _) (fun _ β hβ => ?_)
        obtain rfl := hinj β β0 (by rw [hβ]; simp) (hβ.trans hk0.symm)
        simp
      | succ t =>
        simp only [argT_eq]
        cases ht : as[t]? with
        | none => rw [List.getD_eq_getElem?_getD, ht]; exact .any
        | some m =>
          obtain ⟨c, hc, hr⟩ := hargs t m ht
          rw [List.getD_eq_getElem?_getD, ht, hget _ _ hc]
          exact hr
    · simp only [stP] at hb
      by_cases e : n = 9999
      · subst e
        rw [beq_yes] at hb
        injection hb with hb
        subst hb
        obtain ⟨hr, g, hg⟩ := hbox
        refine .inr ⟨β0, hk0, hr, fun _ j => g j, fun i j hi hj => ?_⟩
        simp only at hi hj
        obtain rfl : i = 0 := by omega
        obtain ⟨g1, g2, g3⟩ := hg j hj
        exact ⟨by simpa using g1, g2, g3.toR⟩
      · rw [beq_no e] at hb; cases hb
    · simp only [stP, Nat.add_mod_right]
      exact Nat.le_trans (Nat.mod_le _ _) (by simp; omega)
    · injection hv with hv
      subst hv
      exact ⟨by simp only [stP]; omega, hget 0 _ hc0⟩
  refine (goC_ok hT c h).run w _ _ w G0 _ hI (fun e st' a' w' G' hq hI' => ?_)
  have key : (match st'.tm 0 with
    | .ptr [9999] ver sz' 0 0 => sideP (Nat.beq ver (st'.vr 9999)) (sideP (Nat.beq sz' sz) (match st'.bl 9999 with
      | some b => sideP (Nat.beq b.sz sz) (sideP (Nat.blt 0 b.len) ((∀ j, j < sz → Sub (clean (b.f 0 j)) (post j)) ∧ resC T st' fn.results.toList (fun l => flatM (tupM l) res)))
      | none => False))
    | _ => False) → a'.defers = [] ∧ ∃ v, (results fn a'.tmps).run P w' = .ok v w' ∧ ∃ c G', Ending.returned v = .returned c ∧ Bel (fun β => G0.key β ≠ []) w w' ∧ (∀ β, G'.key β ≠ [] → β < w'.heap.size ∧ (β < w.heap.size → G0.key β ≠ []) ∧ ∃ s, G'.key β = 9999 :: s) ∧ (∀ β β', G'.key β ≠ [] → G'.key β = G'.key β' → β = β') ∧
      G'.key β0 = [9999] ∧ G'.base β0 = G0.base β0 ∧ BoxR w' G' β0 (G0.base β0) sz post ∧ R w' G' [] res c := by
    intro h
    refine ⟨hI'.df, ?_⟩
    split at h
    · rename_i ver sz' h0
      obtain ⟨hv, h⟩ := h.eq
      obtain ⟨b0, h⟩ := h.eq
      split at h
      · rename_i b hbb
        obtain ⟨b1, h⟩ := h.eq
        obtain ⟨b2, h⟩ := h.lt
        obtain ⟨hpo, h⟩ := h
        obtain ⟨l, hl1, hl2, hl3⟩ := resL_ok hT fn.results.toList (resC_ok _ h)
        obtain ⟨cs, c1, c2, c3⟩ := hl3 hI'
        obtain ⟨hfl, hres⟩ := flatM_ok hl1
        have ht0 := hI'.tm 0
        rw [h0, (hI'.pin _ rfl).2] at ht0
        rcases hI'.bl 9999 b hbb with ⟨h1, _⟩ | ⟨β, hβ, hr, g, hg⟩
        · omega
        have haddr : β = β0 ∧ G'.base β = G0.base β0 := by
          cases ht0 with
          | ptr hs hv' =>
            have := hv' (hv.trans (hI'.vr 9999).symm) β hβ
            simp at this
            exact ⟨this.1.symm, this.2.symm⟩
        obtain ⟨rfl, hbase⟩ := haddr
        have hR : R w' G' [] (tupM l) (valL cs) := by
          have hlen : l.length = cs.length := by rw [hl2, c1]
          rcases l with _ | ⟨m, _ | ⟨m2, l⟩⟩ <;> rcases cs with _ | ⟨c, _ | ⟨c', cs⟩⟩ <;> try (simp at hlen; done)
          · exact .tup rfl (fun _ => undef) (fun i hi => by simp at hi) (fun i hi => by simp at hi)
          · obtain ⟨u, u1, u2⟩ := c3 0 m rfl
            simp only [List.getElem?_cons_zero, Option.some.injEq] at u1
            subst u1
            exact u2
          · refine .tup (by simp at hlen ⊢; omega) (fun i => (c :: c' :: cs).getD i undef) (fun i hi => ?_) (fun i hi => ?_)
            · have : i < (c :: c' :: cs).length := by rw [← hlen]; exact hi
              rw [List.getD_eq_getElem?_getD, List.getElem?_toArray, List.getElem?_eq_getElem this]
              rfl
            · obtain ⟨u, u1, u2⟩ := c3 i ((m :: m2 :: l)[i]'hi) (List.getElem?_eq_getElem hi)
              rw [List.getD_eq_getElem?_getD, List.getElem?_eq_getElem hi, List.getD_eq_getElem?_getD, u1]
              exact u2
        -- the owners of the box alone
        have hkey : ∀ β, (match stripP [9999] (G'.key β) with | some s => 9999 :: s | none => []) = G'.key β ∨ (match stripP [9999] (G'.key β) with | some s => 9999 :: s | none => ([] : List Nat)) = [] := fun β => by
          rcases strip_one (X := 9999) (k := G'.key β) with ⟨s, e1, e2⟩ | ⟨_, e2⟩
          · rw [e2]; exact .inl e1.symm
          · rw [e2]; exact .inr rfl
        have hone : ∀ β s, G'.key β = 9999 :: s → (match stripP [9999] (G'.key β) with | some s => 9999 :: s | none => []) = 9999 :: s := fun β s e => by
          have : stripP [9999] (G'.key β) = some s := stripP_iff.2 e
          rw [this]
        refine ⟨_, results_run c2, _, ⟨fun β => match stripP [9999] (G'.key β) with | some s => 9999 :: s | none => [], G'.base, G'.ver, G'.zero⟩, rfl, hI'.fr, fun β' h => ?_, fun β' β'' h h2 => ?_, hone β [] hβ, hbase, ⟨?_, fun j => g 0 j, fun j hj => ?_⟩, (hres hR).flat hfl⟩
        · simp only at h ⊢
          rcases strip_one (X := 9999) (k := G'.key β') with ⟨s, e1, e2⟩ | ⟨_, e2⟩
          · have := hI'.own β' (by rw [e1]; simp)
            exact ⟨this.1, this.2, s, by rw [e2]⟩
          · rw [e2] at h; exact absurd rfl h
        · simp only at h h2
          rcases strip_one (X := 9999) (k := G'.key β') with ⟨s, e1, e2⟩ | ⟨_, e2⟩
          · rcases strip_one (X := 9999) (k := G'.key β'') with ⟨s', e1', e2'⟩ | ⟨_, e2'⟩
            · rw [e2, e2'] at h2
              have h3 : 9999 :: s = 9999 :: s' := h2
              exact hI'.inj β' β'' (by rw [e1]; simp) (by rw [e1, e1', h3])
            · rw [e2, e2'] at h2; cases h2
          · rw [e2] at h; exact absurd rfl h
        · rw [b1] at hr
          rw [← hbase]
          exact hr.le (Nat.mul_le_mul_right _ b2)
        · obtain ⟨g1, g2, g3⟩ := hg 0 j b2 (by rw [b1]; exact hj)
          refine ⟨by rw [← hbase]; simpa using g1, g2, ?_⟩
          have h1 := (g3.clean).sub (hpo j hj)
          exact RC.mvO (hpost j hj) (G' := ⟨fun β => match stripP [9999] (G'.key β) with | some s => 9999 :: s | none => [], G'.base, G'.ver, G'.zero⟩) (κ := [9999]) (κ' := [9999]) (by simp) (fun β s e => ⟨hone β s e, rfl⟩) (fun s => rfl) [0, j] h1
      · cases h
    · cases h
  unfold retPC at hq
  split at hq
  · exact key hq
  · exact key hq
  · cases hq

/-- The same state, told anew: names are counted from nought. -/
inductive Rn (vr vr' : Nat → Nat) : MV → MV → Prop where
  | any {m : MV} : Rn vr vr' m .any
  | v {c c' : Value} (h : c = c') : Rn vr vr' (.v c) (.v c')
  | tr {own : Bool} {sz len len' : Nat} {f g : Nat → Nat → MV} (e : len = len') (h : ∀ i j, i < len' → j < sz → Rn vr vr' (f i j) (g i j)) : Rn vr vr' (.tr own sz len f) (.tr own sz len' g)
  | ref {n : Nat} {p p' : List Nat} {ver ver' sz off off' len len' : Nat} (h : ver = vr n) (h' : ver' = vr' n) (ep : p = p') (eo : off = off') (el : len = len') : Rn vr vr' (.ref (n :: p) ver sz off len) (.ref (n :: p') ver' sz off' len')
  | ptr {n : Nat} {p p' : List Nat} {ver ver' sz i i' j j' : Nat} (h : ver = vr n) (h' : ver' = vr' n) (ep : p = p') (ei : i = i') (ej : j = j') : Rn vr vr' (.ptr (n :: p) ver sz i j) (.ptr (n :: p') ver' sz i' j')
  | agg {n : Nat} {f g : Nat → MV} (h : ∀ i, i < n → Rn vr vr' (f i) (g i)) : Rn vr vr' (.agg n f) (.agg n g)

theorem R.rn {vr vr' : Nat → Nat} {m m' : MV} (h : Rn vr vr' m m') : ∀ {w : World} {G : Gh} {k : List Nat} {c : Value}, (∀ n, G.ver n = vr n) → R w G k m c → R w ⟨G.key, G.base, vr', G.zero⟩ k m' c := by
  induction h with
  | any => exact fun _ _ => .any
  | v h => subst h; exact fun _ h => by cases h; exact .v
  | tr e h ih =>
    subst e
    intro w G k c hv hr
    cases hr with
    | tr0 hz => exact .tr0 hz
    | tr g hk hf hb hlen hmax hg h1 hr => exact .tr g hk hf hb hlen hmax hg h1 (fun i j hi hj => ih i j hi hj hv (hr i j hi hj))
  | ref h h' ep eo el =>
    subst ep; subst eo; subst el; subst h; subst h'
    intro w G k c hv hr
    cases hr with
    | ref hs hv' hlen hmax hbs => exact .ref (Nat.le_refl _) (fun _ => hv' (hv _).symm) hlen hmax hbs
  | ptr h h' ep ei ej =>
    subst ep; subst ei; subst ej; subst h; subst h'
    intro w G k c hv hr
    cases hr with
    | ptr hs hv' => exact .ptr (Nat.le_refl _) (fun _ => hv' (hv _).symm)
  | agg h ih =>
    intro w G k c hv hr
    cases hr with
    | agg hn g hg h1 hr => exact .agg hn g hg h1 (fun i hi => ih i hi hv (hr i hi))

theorem GS.norm {st st' : St} (htm : ∀ t, Rn st.vr st'.vr (st.tm t) (st'.tm t)) (hbl : ∀ n b', st'.bl n = some b' → ∃ b, st.bl n = some b ∧ b.sz = b'.sz ∧ b.len = b'.len ∧ ∀ i j, i < b'.len → j < b'.sz → Rn st.vr st'.vr (b.f i j) (b'.f i j)) (hnt : st'.nt = st.nt) : GS st st' := by
  refine ⟨fun {w0 O a w G} h => ⟨⟨G.key, G.base, st'.vr, G.zero⟩, fun t => (h.tm t).rn (htm t) h.vr, fun n b' hb' => ?_, h.own, fun _ => rfl, h.inj, h.fr, by rw [hnt]; exact h.nt, h.df, by rw [hnt]; exact h.pin⟩⟩
  obtain ⟨b, h1, h2, h3, h4⟩ := hbl n b' hb'
  rcases h.bl n b h1 with h0 | ⟨β, hβ, hr, g, hg⟩
  · exact .inl ⟨by rw [← h3]; exact h0.1, h0.2⟩
  · rw [h2, h3] at hr
    rw [h2, h3] at hg
    exact .inr ⟨β, hβ, hr, g, fun i j hi hj => ⟨(hg i j hi hj).1, (hg i j hi hj).2.1, (hg i j hi hj).2.2.rn (h4 i j hi hj) h.vr⟩⟩

/-- A state as lists: of slots, of blocks. -/
def lookB (l : List (Nat × Blk)) (n : Nat) : Option Blk :=
  match l with
  | [] => none
  | (m, b) :: r => match Nat.beq n m with
    | true => some b
    | false => lookB r n

def stL (nt : Nat) (A : List (Nat × MV)) (B : List (Nat × Blk)) : St := ⟨lookA A, lookB B, fun _ => 0, nt⟩

def RnA (vr : Nat → Nat) (tm : Nat → MV) : List (Nat × MV) → Prop
  | [] => True
  | (t, m) :: r => Rn vr (fun _ => 0) (tm t) m ∧ RnA vr tm r

def RnB (vr : Nat → Nat) (bl : Nat → Option Blk) : List (Nat × Blk) → Prop
  | [] => True
  | (n, b') :: r => (match bl n with
    | some b => b.sz = b'.sz ∧ b.len = b'.len ∧ ∀ i j, i < b'.len → j < b'.sz → Rn vr (fun _ => 0) (b.f i j) (b'.f i j)
    | none => False) ∧ RnB vr bl r

theorem rnA_at {vr : Nat → Nat} {tm : Nat → MV} : ∀ {A : List (Nat × MV)}, RnA vr tm A → ∀ t, Rn vr (fun _ => 0) (tm t) (lookA A t)
  | [], _, _ => .any
  | (t, m) :: r, h, x => by
    unfold lookA
    by_cases e : x = t
    · subst e; rw [beq_yes]; exact h.1
    · rw [beq_no e]; exact rnA_at h.2 x

theorem rnB_at {vr : Nat → Nat} {bl : Nat → Option Blk} : ∀ {B : List (Nat × Blk)}, RnB vr bl B → ∀ n b', lookB B n = some b' → ∃ b, bl n = some b ∧ b.sz = b'.sz ∧ b.len = b'.len ∧ ∀ i j, i < b'.len → j < b'.sz → Rn vr (fun _ => 0) (b.f i j) (b'.f i j)
  | [], _, n, b', h => by cases h
  | (m, b) :: r, h, n, b', hb => by
    unfold lookB at hb
    by_cases e : n = m
    · subst e
      rw [beq_yes] at hb
      injection hb with hb
      subst hb
      have := h.1
      split at this
      · rename_i b0 h0
        exact ⟨b0, h0, this⟩
      · cases this
    · rw [beq_no e] at hb
      exact rnB_at h.2 n b' hb

theorem GS.lists {st : St} {nt : Nat} {A : List (Nat × MV)} {B : List (Nat × Blk)} (hA : RnA st.vr st.tm A) (hB : RnB st.vr st.bl B) (hnt : nt = st.nt) : GS st (stL nt A B) :=
  GS.norm (rnA_at hA) (rnB_at hB) hnt

/-- A loop: states that are told by a value, of which each round makes a smaller one. -/
theorem goC_loopS (hT : TOk P T) (sp : List Nat) {α : Type} {c : Code} {Q : Exit → St → Prop} {st : St} (S : α → St) (J : α → Prop) (μ : α → Nat) (x0 : α) (j0 : J x0) (h0 : GS st (S x0))
    (round : ∀ x, J x → goC P T sp c (S x) (thenC (fun st' => ∃ y, J y ∧ μ y < μ x ∧ GS st' (S y)) Q)) : MW P (.loop c) st Q := by
  refine MW.loop (fun n st => ∃ x, J x ∧ μ x = n ∧ GS st (S x)) (fun n st ⟨x, jx, hm, hg⟩ => (MW.gs hg (goC_ok hT c (round x jx))).mono fun e st' hq => ?_) (n := μ x0) ⟨x0, j0, rfl, h0⟩
  cases e with
  | normal =>
    obtain ⟨y, h1, h2, h3⟩ := hq
    exact ⟨μ y, by omega, y, h1, rfl, h3⟩
  | _ => exact hq

theorem goC_loop (hT : TOk P T) {α : Type} {c : Code} {Q : Exit → St → Prop} {st : St} (S : α → St) (J : α → Prop) (μ : α → Nat) (x0 : α) (j0 : J x0) (h0 : GS st (S x0))
    (round : ∀ x, J x → goC P T [] c (S x) (thenC (fun st' => ∃ y, J y ∧ μ y < μ x ∧ GS st' (S y)) Q)) : MW P (.loop c) st Q := goC_loopS hT [] S J μ x0 j0 h0 round

/-- A step that only looks at things in another way, then the region at which one stood. -/
theorem MW.gsReg (hT : TOk P T) {id : Nat} {ops : Array Oper} {st st' : St} {Q : Exit → St → Prop} (g : GS st st') (h : runF P T ops ops.toList st' (fun st' => Q .normal st')) : MW P (.region id ops false) st Q := MW.gs g (MW.reg hT h)

theorem Rn.noref {vr vr' : Nat → Nat} {m : MV} (h : NoRef m) : Rn vr vr' m m := by
  induction h with
  | any => exact .any
  | v => exact .v rfl
  | tr h ih => exact .tr rfl ih
  | agg h ih => exact .agg ih

/-- A value that knows nothing of a name; all its names are counted from nought. -/
inductive Cl (m : Nat) : MV → Prop where
  | no {x : MV} (h : NoRef x) : Cl m x
  | tr {o : Bool} {sz len : Nat} {f : Nat → Nat → MV} (h : ∀ i j, i < len → j < sz → Cl m (f i j)) : Cl m (.tr o sz len f)
  | agg {n : Nat} {f : Nat → MV} (h : ∀ i, i < n → Cl m (f i)) : Cl m (.agg n f)
  | ref {n sz off len : Nat} (h : n ≠ m) : Cl m (.ref [n] 0 sz off len)
  | ptr {n sz i j : Nat} (h : n ≠ m) : Cl m (.ptr [n] 0 sz i j)

theorem reM_noref {N V : Nat} {κ : List Nat} {vr vr' : Nat → Nat} {x : MV} (h : NoRef x) : Rn vr vr' (reM N V κ x) x := by
  induction h with
  | any => exact .any
  | v => exact .v rfl
  | tr h ih => exact .tr rfl ih
  | agg h ih => exact .agg ih

theorem Cl.rn {st : St} {m N : Nat} {p : List Nat} {i j : Nat} {b0 bm : Blk} {len : Nat} (h0 : ∀ n, st.vr n = 0) {x : MV} (h : Cl m x) : Rn (st.lay m N p i j b0 bm len).vr (fun _ => 0) (reM N (st.vr N) (N :: (p ++ [i, j])) x) x := by
  have hp : ∀ n, preB (N :: (p ++ [i, j])) [n] = false := fun n => by
    cases e : preB (N :: (p ++ [i, j])) [n] with
    | false => rfl
    | true =>
      have := (preB_iff.1 e).length_le
      simp at this
  have key : ∀ n, n ≠ m → reV N (st.vr N) (N :: (p ++ [i, j])) [n] 0 = (st.lay m N p i j b0 bm len).vr n := fun n hn => by
    simp only [reV, hp, St.lay, h0]
    by_cases e : n = N
    · subst e; rw [beq_yes]
    · rw [beq_no e, beq_no hn]
  induction h with
  | no h => exact reM_noref h
  | tr h ih => exact .tr rfl ih
  | agg h ih => exact .agg ih
  | ref h => exact .ref (key _ h) rfl rfl rfl rfl
  | ptr h => exact .ptr (key _ h) rfl rfl rfl rfl

def delB (m : Nat) (B : List (Nat × Blk)) : List (Nat × Blk) :=
  match B with
  | [] => []
  | (n, b) :: r => match Nat.beq n m with
    | true => delB m r
    | false => (n, b) :: delB m r

theorem delB_at {m : Nat} : ∀ (B : List (Nat × Blk)) (x : Nat), lookB (delB m B) x = if x = m then none else lookB B x
  | [], x => by simp [delB, lookB]
  | (n, b) :: r, x => by
    unfold delB
    by_cases e : n = m
    · subst e
      rw [beq_yes]
      simp only
      rw [delB_at r x]
      by_cases e2 : x = n
      · simp [e2]
      · simp only [e2, if_false, lookB]
        rw [beq_no e2]
    · rw [beq_no e]
      simp only [lookB]
      by_cases e2 : x = n
      · subst e2
        rw [beq_yes]
        simp [e]
      · rw [beq_no e2]
        simp only
        exact delB_at r x

/-- What has the name m is laid into a cell of N. -/
theorem GS.layL {nt : Nat} {A : List (Nat × MV)} {B : List (Nat × Blk)} (N m i j : Nat) {b bm : Blk} {len : Nat} (hNm : N ≠ m) (hb : lookB B N = some b) (hm : lookB B m = some bm) (hi : i < b.len) (hj : j < b.sz) (hc : b.f i j = .ref [m] 0 bm.sz 0 len) (hlen : len ≤ bm.len)
    (hA : ∀ t, Cl m (lookA A t)) (hB : ∀ n b, n ≠ m → lookB B n = some b → ∀ i' j', i' < b.len → j' < b.sz → ¬ (n = N ∧ i' = i ∧ j' = j) → Cl m (b.f i' j')) (hbm : ∀ i' j', i' < len → j' < bm.sz → Cl m (bm.f i' j')) :
    GS (stL nt A B) (stL nt A ((N, ⟨b.sz, b.len, fun i' j' => bif Nat.beq i' i && Nat.beq j' j then .tr true bm.sz len bm.f else b.f i' j'⟩) :: delB m B)) := by
  have h0 : ∀ n, (stL nt A B).vr n = 0 := fun _ => rfl
  refine (GS.lay (p := []) (i := i) (j := j) (b0 := b) (bm := bm) (len := len) hNm hb hm ⟨hi, hj, hc⟩ hlen).trans (GS.norm (fun t => (hA t).rn h0) (fun n b' hn => ?_) rfl)
  simp only [stL, lookB] at hn
  by_cases e : n = N
  · subst e
    rw [beq_yes] at hn
    injection hn with hn
    subst hn
    have hbl : ((stL nt A B).lay m n [] i j b bm len).bl n = some (updB (reB n 0 (n :: ([] ++ [i, j])) b) [] i j 1 (fun _ => .tr true bm.sz len (fun a c => reM n 0 (n :: ([] ++ [i, j])) (bm.f a c)))) := by
      simp only [St.lay]
      rw [beq_yes]
      rfl
    refine ⟨_, hbl, rfl, rfl, fun i' j' hi' hj' => ?_⟩
    simp only [updB, reB]
    by_cases e2 : i' = i ∧ j ≤ j' ∧ j' < j + 1
    · rw [if_pos e2]
      obtain ⟨rfl, h1, h2⟩ := e2
      obtain rfl : j' = j := by omega
      rw [beq_yes, beq_yes]
      exact .tr rfl fun a c ha hc => (hbm a c ha hc).rn h0
    · rw [if_neg e2]
      have : (Nat.beq i' i && Nat.beq j' j) = false := by
        by_cases e3 : i' = i
        · subst e3
          rw [beq_yes, beq_no (fun e => e2 ⟨rfl, by omega, by omega⟩)]
          rfl
        · rw [beq_no e3]; rfl
      rw [this]
      exact (hB n b hNm hb i' j' hi' hj' (fun h => e2 ⟨h.2.1, by omega, by omega⟩)).rn h0
  · rw [beq_no e] at hn
    simp only at hn
    rw [delB_at] at hn
    split at hn
    · cases hn
    · rename_i hnm
      have hbl : ((stL nt A B).lay m N [] i j b bm len).bl n = some (reB N 0 (N :: ([] ++ [i, j])) b') := by
        simp only [St.lay]
        rw [beq_no e, beq_no hnm]
        show (lookB B n).map _ = _
        rw [hn]
        rfl
      refine ⟨_, hbl, rfl, rfl, fun i' j' hi' hj' => ?_⟩
      exact (hB n b' hnm hn i' j' hi' hj' (fun h => e h.1)).rn h0

/-- A name that is to be laid: into which cell of the row, the block, how many rows of it. -/
structure LayN where
  j : Nat
  m : Nat
  bm : Blk
  len : Nat

def layR (i : Nat) (b : Blk) (x : LayN) : Blk := ⟨b.sz, b.len, fun i' j' => bif Nat.beq i' i && Nat.beq j' x.j then .tr true x.bm.sz x.len x.bm.f else b.f i' j'⟩

def layAll (i : Nat) (L : List LayN) (b : Blk) : Blk :=
  match L with
  | [] => b
  | x :: r => layAll i r (layR i b x)

theorem lookB_shadow {N : Nat} {b1 b : Blk} {r : List (Nat × Blk)} : lookB ((N, b1) :: (N, b) :: r) = lookB ((N, b1) :: r) := by
  funext x
  simp only [lookB]
  cases Nat.beq x N <;> rfl

theorem delB_no {m : Nat} : ∀ {B : List (Nat × Blk)}, (∀ p ∈ B, p.1 ≠ m) → delB m B = B
  | [], _ => rfl
  | (n, b) :: r, h => by
    unfold delB
    rw [beq_no (h (n, b) (by simp))]
    simp only
    rw [delB_no (fun p hp => h p (by simp [hp]))]

theorem lookB_mem {n : Nat} {b : Blk} : ∀ {B : List (Nat × Blk)}, lookB B n = some b → (n, b) ∈ B
  | (m, b') :: r, h => by
    unfold lookB at h
    by_cases e : n = m
    · subst e
      rw [beq_yes] at h
      injection h with h
      subst h
      simp
    · rw [beq_no e] at h
      exact List.mem_cons_of_mem _ (lookB_mem h)

/-- A row's names become trees. -/
theorem GS.layRow {nt : Nat} {A : List (Nat × MV)} {N i : Nat} : ∀ (L : List LayN) {b : Blk}, L.Pairwise (fun x y => x.m ≠ y.m ∧ x.j ≠ y.j) → (∀ x ∈ L, N ≠ x.m) → (∀ t, ∀ x ∈ L, Cl x.m (lookA A t)) → i < b.len →
    (∀ x ∈ L, x.j < b.sz ∧ b.f i x.j = .ref [x.m] 0 x.bm.sz 0 x.len ∧ x.len ≤ x.bm.len ∧ ∀ a c, a < x.bm.len → c < x.bm.sz → NoRef (x.bm.f a c)) →
    (∀ a c, a < b.len → c < b.sz → (∀ x ∈ L, ¬ (a = i ∧ c = x.j)) → NoRef (b.f a c)) → GS (stL nt A ((N, b) :: L.map (fun x => (x.m, x.bm)))) (stL nt A [(N, layAll i L b)])
  | [], b, _, _, _, _, _, _ => GS.refl
  | x :: L, b, hp, hN, hA, hi, hx, hno => by
    obtain ⟨hp1, hp2⟩ := List.pairwise_cons.1 hp
    obtain ⟨x1, x2, x3, x4⟩ := hx x (by simp)
    have hNx := hN x (by simp)
    have hdel : ∀ p ∈ L.map (fun x => (x.m, x.bm)), p.1 ≠ x.m := fun p hp => by
      obtain ⟨y, hy, rfl⟩ := List.mem_map.1 hp
      exact fun e => (hp1 y hy).1 e.symm
    have step := GS.layL (nt := nt) (A := A) (B := (N, b) :: (x :: L).map (fun x => (x.m, x.bm))) N x.m i x.j (b := b) (bm := x.bm) (len := x.len) hNx (by simp only [lookB]; rw [beq_yes]) (by simp only [List.map_cons, lookB]; rw [beq_no (Ne.symm hNx), beq_yes]) hi x1 x2 x3 (fun t => hA t x (by simp)) (fun n b' hn hb' a c ha hc hne => ?_) (fun a c ha hc => .no (x4 a c (by omega) hc))
    · have e : delB x.m ((N, b) :: (x :: L).map (fun x => (x.m, x.bm))) = (N, b) :: L.map (fun x => (x.m, x.bm)) := by
        simp only [List.map_cons, delB]
        rw [beq_no hNx, beq_yes]
        simp only
        rw [delB_no hdel]
      rw [e] at step
      have e2 : stL nt A ((N, layR i b x) :: (N, b) :: L.map (fun x => (x.m, x.bm))) = stL nt A ((N, layR i b x) :: L.map (fun x => (x.m, x.bm))) := by
        unfold stL
        rw [lookB_shadow]
      have step2 : GS (stL nt A ((N, b) :: (x :: L).map (fun x => (x.m, x.bm)))) (stL nt A ((N, layR i b x) :: L.map (fun x => (x.m, x.bm)))) := by
        rw [← e2]; exact step
      refine step2.trans (GS.layRow L hp2 (fun y hy => hN y (by simp [hy])) (fun t y hy => hA t y (by simp [hy])) hi (fun y hy => ?_) (fun a c ha hc hcl => ?_))
      · obtain ⟨y1, y2, y3, y4⟩ := hx y (by simp [hy])
        refine ⟨y1, ?_, y3, y4⟩
        simp only [layR]
        rw [beq_no (fun e => (hp1 y hy).2 e.symm), Bool.and_false]
        exact y2
      · simp only [layR]
        by_cases e3 : a = i ∧ c = x.j
        · obtain ⟨rfl, rfl⟩ := e3
          rw [beq_yes, beq_yes]
          exact .tr fun a c ha hc => x4 a c (by omega) hc
        · have : (Nat.beq a i && Nat.beq c x.j) = false := by
            by_cases e4 : a = i
            · subst e4; rw [beq_yes, beq_no (fun e => e3 ⟨rfl, e⟩)]; rfl
            · rw [beq_no e4]; rfl
          rw [this]
          exact hno a c ha hc (fun y hy => by
            rcases List.mem_cons.1 hy with rfl | hy
            · exact e3
            · exact hcl y hy)
    · have hm := lookB_mem hb'
      rcases List.mem_cons.1 hm with hm | hm
      · injection hm with h1 h2
        subst h1; subst h2
        by_cases hc2 : ∃ y ∈ L, a = i ∧ c = y.j
        · obtain ⟨y, hy, rfl, rfl⟩ := hc2
          rw [(hx y (by simp [hy])).2.1]
          exact .ref (fun e => (hp1 y hy).1 e.symm)
        · refine .no (hno a c ha hc (fun y hy h => ?_))
          rcases List.mem_cons.1 hy with rfl | hy
          · exact hne ⟨rfl, h⟩
          · exact hc2 ⟨y, hy, h⟩
      · obtain ⟨y, hy, e⟩ := List.mem_map.1 hm
        injection e with e1 e2
        subst e2
        exact .no ((hx y hy).2.2.2 a c ha hc)

end

end Go.Proofs.YtiimdlkeikcfiaaGreat.M
