/- Operations that make blocks, on states of typed data. -/
import Derived.Test.YtiimdlkeikcfiaaGreatVF
namespace Go.Proofs.YtiimdlkeikcfiaaGreat.V
open Go.RowKit M

abbrev VTab := Nat → Option Ty
def zeroV : Ty → List Value
  | .i64 => [.int .i64 0]
  | .u8 => [.int .u8 0]
  | .bool => [.bool false]
  | .str => [.string ⟨#[]⟩]
  | .msg => [.int .i64 0, .int .i64 0]
  | .obj => [.int .i64 0, .int .i64 0, .int .i64 0, .int .i64 0, .int .i64 0, .int .i64 0, .int .i64 0, .int .i64 0, .int .i64 0, .bool false, .slice none 0 0, .slice none 0 0, .slice none 0 0]
  | .res => [.bool false, .int .i64 0, .int .i64 0, .int .i64 0, .int .i64 0]
  | .tap => [.int .i64 0, .int .i64 0, .int .i64 0, .int .i64 0, .int .i64 0, .int .i64 0]
  | .tree => [.slice none 0 0]
  | .part => [.slice none 0 0, .slice none 0 0, .slice none 0 0, .slice none 0 0, .int .i64 0, .int .i64 0, .int .i64 0, .slice none 0 0, .slice none 0 0, .int .i64 0, .int .i64 0, .int .i64 0, .int .i64 0, .int .i64 0, .int .i64 0, .int .i64 0]
  | .boot => [.slice none 0 0, .slice none 0 0, .int .i64 0, .int .i64 0, .int .i64 0]
  | .entry => [.int .i64 0, .int .i64 0, .int .i64 0, .int .i64 0, .int .i64 0, .int .i64 0, .int .i64 0, .int .i64 0, .int .i64 0]
  | .reply => [.int .i64 0, .int .i64 0]
  | .call => [.int .i64 0, .int .i64 0, .int .i64 0, .int .i64 0, .int .i64 0, .int .i64 0]
theorem zero_len (t : Ty) : (zeroV t).length = sz t := by cases t <;> rfl
def ZOk {α : Type} (x : α) (c : CellD α) (v : Value) : Prop :=
  match c with
  | .int k g _ => v = .int k (g x)
  | .bool g _ => v = .bool (g x)
  | .str g _ => v = .string (g x)
  | .sl _ g _ => g x = [] ∧ v = .slice none 0 0
def ZAll {α : Type} (x : α) : List (CellD α) → List Value → Prop
  | [], _ => True
  | c :: r, v :: s => ZOk x c v ∧ ZAll x r s
  | _ :: _, [] => False
theorem zall_at {α : Type} {x : α} : ∀ {l : List (CellD α)} {vs : List Value}, ZAll x l vs → ∀ {j : Nat} {c : CellD α}, nth l j = some c → ZOk x c (vs.getD j undef)
  | c :: r, v :: s, h, 0, c', hc => by
    injection hc with hc
    subst hc
    exact h.1
  | c :: r, v :: s, h, j + 1, c', hc => by
    have := zall_at h.2 (j := j) (c := c') hc
    simpa using this
  | _ :: _, [], h, _, _, _ => h.elim
theorem zall (t : Ty) : ZAll (d0 t) (cells t) (zeroV t) := by
  cases t <;> simp [ZAll, cells, zeroV, ZOk]
theorem zero_enc (RV : OV → MV → Prop) {f : List Nat → Option OV} (o : Bool) {t : Ty} {j : Nat} {c : CellD (den t)} (h : nth (cells t) j = some c) (hf : f [] = none) : Enc RV f o t (d0 t) c (cv ((zeroV t).getD j undef)) := by
  have hz := zall_at (zall t) h
  cases c with
  | int k g p => simp only [ZOk] at hz; rw [hz]; exact .int hf
  | bool g p => simp only [ZOk] at hz; rw [hz]; exact .bool hf
  | str g p => simp only [ZOk] at hz; rw [hz]; exact .str hf
  | sl t' g p => simp only [ZOk] at hz; rw [hz.2]; exact .nil hf hz.1
structure VTOk (T : TyT) (VT : VTab) : Prop where
  ok : ∀ e ty i, VT e = some ty → T e = some i → i.zero = zeroV ty

/-! ### States with a fresh block -/
theorem ovF_none_kill {kl : List Nat → Bool} {ov : List (List Nat × OV)} {p : List Nat} (h : ovF ov p = none) : ovF (killV kl ov) p = none := by rw [ovF_kill, h]; rfl
theorem BNode.kill {kl : List Nat → Bool} {b : VB} {p : List Nat} {t : Ty} {o : Bool} {l : List (den t)} (h : BNode b p t o l) : BNode (killB kl b) p t o l := by
  cases b with
  | rows t0 o0 l0 ov =>
    obtain ⟨bk, h⟩ := h
    exact ⟨bk, h.map (fun p hp => ovF_none_kill hp)⟩
  | box cs =>
    match p, h with
    | 0 :: j :: p, h =>
      simp only [BNode] at h
      split at h
      · rename_i t0 o0 l0 ov hc
        obtain ⟨bk, h⟩ := h
        simp only [killB, BNode, nth_mapL, hc, Option.map_some, killC]
        exact ⟨bk, h.map (fun p hp => ovF_none_kill hp)⟩
      · exact h.elim
section
variable {B B' : Nat → Option VB} {E E' : St} {kl : List Nat → Bool}
theorem keep_of (h : ∀ n p, kl (n :: p) = false → ∀ b, B n = some b → B' n = some (killB kl b) ∧ E'.vr n = E.vr n ∧ E'.bl n = E.bl n) : Keep B B' E E' kl (fun m => m) where
  good := good_id
  ref := by
    rintro k t w m hk ⟨n, p, o, l, rfl, ⟨n', p', b, e, hb, hn⟩, h3, h4⟩
    injection e with e1 e2
    subst e1 e2
    obtain ⟨h5, h6, h7⟩ := h n p hk b hb
    refine ⟨n, p, o, l, rfl, ⟨n, p, _, rfl, h5, hn.kill⟩, h3, ?_⟩
    rcases h4 with ⟨h8, b', h9, h10⟩ | h4
    · exact .inl ⟨by rw [h6]; exact h8, b', nodeP_bl h7 h9, h10⟩
    · exact .inr h4
  ptr := by
    rintro k i j m hk ⟨n, p, z, rfl, hm, h4⟩
    refine ⟨n, p, z, rfl, ?_⟩
    rcases h4 with ⟨cs, rfl, hb, hz, hi⟩ | ⟨t, o, l, ⟨n', p', b, e, hb, hn⟩, h5, h6⟩
    · obtain ⟨h5, h6, _⟩ := h n [] hk _ hb
      exact ⟨by rw [h6]; exact hm, .inl ⟨_, rfl, h5, by rw [length_mapL]; exact hz, hi⟩⟩
    · injection e with e1 e2
      subst e1 e2
      obtain ⟨h7, h8, _⟩ := h n p hk b hb
      exact ⟨by rw [h8]; exact hm, .inr ⟨t, o, l, ⟨n, p, _, rfl, h7, hn.kill⟩, h5, h6⟩⟩
end
def VSt.clear (s : VSt) (d : Nat) : VSt :=
  match look s.bl none d with
  | none => s
  | some _ => (s.kill (preB [d])).blk d none
theorem preB_one {d n : Nat} {p : List Nat} : preB [d] (n :: p) = Nat.beq d n := by
  show (match Nat.beq d n with | true => preB [] p | false => false) = _
  cases Nat.beq d n <;> rfl
theorem blkeq {b' : Blk} : (⟨b'.sz, b'.len, fun i j => (fun m => m) (b'.f i j)⟩ : Blk) = b' := rfl
theorem kill_B {s : VSt} {kl : List Nat → Bool} {n : Nat} : (s.kill kl).B n = (s.B n).map (killB kl) := look_killBl kl _ _
theorem kill_T {s : VSt} {kl : List Nat → Bool} {t : Nat} : (s.kill kl).T t = killS kl (s.T t) := look_killTm kl _ _
theorem Sim.clear {s : VSt} {st : St} (h : Sim s st) (d : Nat) : Sim (s.clear d) st ∧ (s.clear d).B d = none := by
  unfold VSt.clear
  split
  · rename_i e
    exact ⟨h, e⟩
  · refine ⟨?_, by rw [blk_B]; simp⟩
    have hne : ∀ n b, ((s.kill (preB [d])).blk d none).B n = some b → n ≠ d ∧ ∃ b0, s.B n = some b0 ∧ b = killB (preB [d]) b0 := by
      intro n b hb
      rw [blk_B] at hb
      split at hb
      · cases hb
      · rename_i e
        rw [kill_B] at hb
        obtain ⟨b0, h0, h1⟩ := Option.map_eq_some_iff.1 hb
        exact ⟨e, b0, h0, h1.symm⟩
    have K : Keep s.B ((s.kill (preB [d])).blk d none).B st st (preB [d]) (fun m => m) := keep_of (fun n p hk b hb => by
      rw [preB_one] at hk
      have e : n ≠ d := by rintro rfl; rw [beq_yes] at hk; cases hk
      rw [blk_B, if_neg e, kill_B, hb]
      exact ⟨rfl, rfl, rfl⟩)
    refine h.keep K h.nt (fun t => kill_T) (fun t => rfl) (fun n b hb => ?_)
    obtain ⟨e, b0, h0, rfl⟩ := hne n b hb
    obtain ⟨b', h1, h2⟩ := h.bl n b0 h0
    exact ⟨b', h1, K.b h2⟩
theorem keep_fresh {s : VSt} {E E' : St} {d : Nat} {b : VB} (hd : s.B d = none) (h : ∀ n, n ≠ d → E'.bl n = E.bl n ∧ E'.vr n = E.vr n) : Keep s.B (s.blk d (some b)).B E E' noK (fun m => m) := keep_of (fun n p _ b0 hb => by
  have e : n ≠ d := by rintro rfl; rw [hd] at hb; cases hb
  rw [blk_B, if_neg e, hb, killB_no]
  exact ⟨rfl, (h n e).2, (h n e).1⟩)
/-- Only the block d is another one. -/
structure Only (d : Nat) (st st' : St) : Prop where
  tm : st'.tm = st.tm
  nt : st'.nt = st.nt
  ne : ∀ n, n ≠ d → st'.bl n = st.bl n ∧ st'.vr n = st.vr n
theorem only_wr {d : Nat} {st : St} {b : Option Blk} {v : Bool} : Only d st (st.wr [(d, b, v)]) := by
  refine ⟨rfl, rfl, fun n hn => ⟨by simp [St.wr, setBl, hn], ?_⟩⟩
  cases v
  · rfl
  · simp [St.wr, putV, hn]
theorem Sim.fresh {s : VSt} {st st' : St} (h : Sim s st) {d : Nat} {b : VB} {b' : Blk} (hd : s.B d = none) (ho : Only d st st') (hbd : st'.bl d = some b') (hb : RelB (s.blk d (some b)).B st' b b') : Sim (s.blk d (some b)) st' := by
  have K := keep_fresh (b := b) hd ho.ne
  refine h.keep K (by rw [ho.nt]; exact h.nt) (fun t => (killS_no _).symm) (fun t => by rw [ho.tm]) (fun n b0 hb0 => ?_)
  rw [blk_B] at hb0
  split at hb0
  · rename_i e
    injection hb0 with hb0
    subst hb0 e
    exact ⟨b', hbd, hb⟩
  · rename_i e
    obtain ⟨b1, h1, h2⟩ := h.bl n b0 hb0
    refine ⟨b1, by rw [(ho.ne n e).1]; exact h1, ?_⟩
    have := K.b h2
    rw [killB_no] at this
    exact this
/-- What an effect is, in both. -/
def PostM (st : St) (K : VV → VSt → List Nat → List Nat → Prop) (e : Eff) : Prop := ∃ v s' wr ft, K v s' wr ft ∧ (∀ x ∈ e.wr, x.1 ∈ wr) ∧ (∀ n ∈ e.ft, n ∈ ft) ∧ Sim s' (st.wr e.wr) ∧ RelS s'.B (st.wr e.wr) v e.val

/-! ### Cells of values -/
def cvC (c : Value) : CV :=
  match c with
  | .agg _ => .any
  | .tuple _ => .any
  | c => .sc c
theorem rel_cvC {B : Nat → Option VB} {E : St} (c : Value) : RelC B E (cvC c) (cv c) := by
  cases c with
  | agg cs => trivial
  | tuple cs => trivial
  | _ => rfl
def okC (c : CV) : Bool :=
  match c with
  | .sc c => c.oneCell'
  | .ro .. => true
  | .ref .. => true
  | .ptr .. => true
  | .rptr .. => true
  | _ => false
def cellsA (v : VV) (K : List CV → Prop) : Prop :=
  match v with
  | .av (.agg l) => K l
  | .av (.one c) => match okC c with
    | true => K [c]
    | false => False
  | .tup _ => False
theorem okC_ok {B : Nat → Option VB} {E : St} {c : CV} {m : MV} (h : RelC B E c m) (ho : okC c = true) : cellOk m = true ∧ ∀ n f, m ≠ .agg n f := by
  cases c with
  | any => cases ho
  | sc c => simp only [RelC] at h; subst h; exact ⟨ho, fun _ _ => by simp⟩
  | ro t l =>
    rcases h with ⟨len, r, h1, rfl, h3⟩ | ⟨h1, rfl⟩
    · exact ⟨rfl, fun _ _ => by simp⟩
    · exact ⟨rfl, fun _ _ => by simp⟩
  | own t o l ov => exact h.elim
  | ref k t w =>
    obtain ⟨n, p, o, l, h1, h2, h3, h4 | h4⟩ := h
    · obtain ⟨rfl, _⟩ := h4; exact ⟨rfl, fun _ _ => by simp⟩
    · obtain ⟨_, _, rfl⟩ := h4; exact ⟨rfl, fun _ _ => by simp⟩
  | ptr k i j => obtain ⟨n, p, z, h1, rfl, h3⟩ := h; exact ⟨rfl, fun _ _ => by simp⟩
  | rptr t l i j => obtain ⟨h0, len, r, h1, rfl, h3⟩ := h; exact ⟨rfl, fun _ _ => by simp⟩
theorem cellsA_at {B : Nat → Option VB} {E : St} {v : VV} {m : MV} (h : RelS B E v m) {K : List CV → Prop} (hk : cellsA v K) : ∃ l f, K l ∧ (∀ K' : Nat → (Nat → MV) → Prop, K' l.length f → cellsM m K') ∧ ∀ i c, nth l i = some c → RelC B E c (f i) := by
  unfold cellsA at hk
  split at hk
  · rename_i l
    obtain ⟨f, rfl, h⟩ := h
    exact ⟨l, f, hk, fun K' h => h, h⟩
  · rename_i c
    split at hk
    · rename_i ho
      obtain ⟨h1, h2⟩ := okC_ok h ho
      refine ⟨[c], fun _ => m, hk, fun K' hK => ?_, fun i c' hc => ?_⟩
      · unfold cellsM
        cases m with
        | agg n f => exact absurd rfl (h2 n f)
        | _ => simp only [h1]; exact hK
      · cases i with
        | zero => injection hc with hc; subst hc; exact h
        | succ i => cases hc
    · exact hk.elim
  · exact hk.elim
theorem RelC.x {B : Nat → Option VB} {E : St} {c : CV} {m : MV} (h : RelC B E c m) : RelX B E c m := by
  cases c with
  | own t o l ov => exact h.elim
  | _ => exact h
/-- Some cells of a list become others. -/
def overL (off : Nat) (f g : List CV) : List CV :=
  match off with
  | 0 => match f with
    | [] => g
    | x :: r => match g with
      | [] => []
      | _ :: s => x :: overL 0 r s
  | n + 1 => match g with
    | [] => []
    | y :: s => y :: overL n f s
theorem overL_len : ∀ (off : Nat) (f g : List CV), (overL off f g).length = g.length
  | 0, [], g => by simp [overL]
  | 0, x :: r, [] => by simp [overL]
  | 0, x :: r, y :: s => by simp [overL, overL_len 0 r s]
  | n + 1, f, [] => by simp [overL]
  | n + 1, f, y :: s => by simp [overL, overL_len n f s]
theorem overL_nth : ∀ (off : Nat) (f g : List CV), off + f.length ≤ g.length → ∀ j, nth (overL off f g) j = if off ≤ j ∧ j < off + f.length then nth f (j - off) else nth g j
  | 0, [], g, _, j => by
    simp only [overL, List.length_nil, Nat.add_zero]
    rw [if_neg (by omega)]
  | 0, x :: r, [], h, j => by simp at h
  | 0, x :: r, y :: s, h, 0 => by simp [overL, nth]
  | 0, x :: r, y :: s, h, j + 1 => by
    simp only [overL, nth]
    rw [overL_nth 0 r s (by simp at h; omega) j]
    simp only [List.length_cons, Nat.zero_add, Nat.zero_le, true_and, Nat.sub_zero, nth]
    by_cases e : j < r.length
    · rw [if_pos e, if_pos (by omega)]
    · rw [if_neg e, if_neg (by omega)]
  | n + 1, f, [], h, j => by simp at h
  | n + 1, f, y :: s, h, 0 => by
    simp only [overL, nth]
    rw [if_neg (by omega)]
  | n + 1, f, y :: s, h, j + 1 => by
    simp only [overL, nth]
    rw [overL_nth n f s (by simp at h; omega) j]
    by_cases e : n ≤ j ∧ j < n + f.length
    · rw [if_pos e, if_pos (by omega), show j + 1 - (n + 1) = j - n by omega]
    · rw [if_neg e, if_neg (by omega)]
def fillV (place : Nat → Option (Nat × Nat)) (ps : List (Nat × VV)) (g : List CV) (K : List CV → Prop) : Prop :=
  match ps with
  | [] => K g
  | (i, v) :: r => match place i with
    | some (off, n) => cellsA v (fun l => match Nat.beq l.length n && Nat.ble (off + n) g.length with
      | true => fillV place r (overL off l g) K
      | false => False)
    | none => False
def CellsV (B : Nat → Option VB) (E : St) (g : List CV) (f : Nat → MV) : Prop := ∀ j c, nth g j = some c → RelC B E c (f j)
theorem fillV_at {B : Nat → Option VB} {E : St} {place : Nat → Option (Nat × Nat)} {ev : Operand → VV} {ev' : Operand → MV} (hev : ∀ x, RelS B E (ev x) (ev' x)) : ∀ (ps : List (Nat × Operand)) {g : List CV} {f : Nat → MV} {N : Nat} {K : List CV → Prop}, fillV place (ps.map fun (i, x) => (i, ev x)) g K → g.length = N → CellsV B E g f →
    ∃ g', K g' ∧ g'.length = N ∧ ∃ f', CellsV B E g' f' ∧ ∀ K' : (Nat → MV) → Prop, K' f' → fillM place N (ps.map fun (i, x) => (i, ev' x)) f K'
  | [], g, f, N, K, h, hN, hc => ⟨g, h, hN, f, hc, fun _ h => h⟩
  | (i, x) :: r, g, f, N, K, h, hN, hc => by
    simp only [List.map_cons, fillV] at h
    split at h
    · rename_i off n hp
      obtain ⟨l, fl, h1, h2, h3⟩ := cellsA_at (hev x) h
      split at h1
      · rename_i hb
        rw [Bool.and_eq_true] at hb
        have e1 : l.length = n := by simpa using hb.1
        have e2 : off + n ≤ g.length := by simpa using hb.2
        obtain ⟨g', k1, k2, f', k3, k4⟩ := fillV_at hev r (f := over off n fl f) (N := N) h1 (by rw [overL_len]; exact hN) (fun j c hj => by
          rw [overL_nth off l g (by omega)] at hj
          unfold over
          by_cases e : off ≤ j ∧ j < off + l.length
          · rw [if_pos e] at hj
            rw [show Nat.ble off j = true by simpa using e.1, show Nat.blt j (off + n) = true from blt_iff.2 (by omega)]
            exact h3 _ _ hj
          · rw [if_neg e] at hj
            have : (Nat.ble off j && Nat.blt j (off + n)) = false := by
              rw [Bool.and_eq_false_iff]
              by_cases e3 : off ≤ j
              · right
                cases hb : Nat.blt j (off + n) with
                | true => have := blt_iff.1 hb; omega
                | false => rfl
              · left
                cases hb : Nat.ble off j with
                | true => exact absurd (Nat.le_of_ble_eq_true hb) e3
                | false => rfl
            rw [this]
            exact hc j c hj)
        refine ⟨g', k1, k2, f', k3, fun K' hK => ?_⟩
        simp only [List.map_cons, fillM, hp]
        refine h2 _ ?_
        rw [show (Nat.beq l.length n && Nat.ble (off + n) N) = true by rw [Bool.and_eq_true]; exact ⟨by simpa using e1, by rw [← hN]; simpa using e2⟩]
        exact k4 K' hK
      · exact h1.elim
    · exact h.elim
end Go.Proofs.YtiimdlkeikcfiaaGreat.V
