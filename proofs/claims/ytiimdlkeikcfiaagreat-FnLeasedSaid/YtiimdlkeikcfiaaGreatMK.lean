/- All operations but calls: their effects, and that they have them. -/
import Derived.Test.YtiimdlkeikcfiaaGreatMJ
import Derived.DataReads
import Derived.IntWalk
namespace Go.Proofs.YtiimdlkeikcfiaaGreat.M
open Go.RowKit

def placeS (T : TyT) (fl : List (Nat × Nat)) (q : Nat) : Option (Nat × Nat) :=
  match fl[q]? with
  | some (off, t) => match T t with
    | some i => some (off, i.sz)
    | none => none
  | none => none

/-- What is appended, as it is known. -/
def srcM (ev : Operand → MV) (bl : Nat → Option Blk) (vr : Nat → Nat) (x : Operand) (sz : Nat) (K : Nat → (Nat → Nat → MV) → List Nat → Prop) : Prop :=
  match ev x with
  | .v (.slice none 0 _) => K 0 (fun _ _ => .any) []
  | .tr false sz' n f => (match Nat.beq sz' sz with
    | true => K n f []
    | false => False)
  | .ref (m :: p) ver sz' off n => (match Nat.beq sz' sz with
    | true => sideP (Nat.beq ver (vr m)) (nodeC bl (m :: p) (fun b => sideP (Nat.beq b.sz sz) (sideP (Nat.ble (off + n) b.len) (K n (fun i j => liftM ver (m :: p ++ [off + i, j]) (b.f (off + i) j)) [m]))))
    | false => False)
  | _ => False

/-- The last two of a key. -/
def lastTwo : List Nat → Option (List Nat × Nat × Nat)
  | [a, c] => some ([], a, c)
  | a :: c :: r => match lastTwo r with
    | some (p, x, y) => some (a :: c :: p, x, y)
    | none => none
  | _ => none

theorem lastTwo_ok : ∀ {q p : List Nat} {a c : Nat}, lastTwo q = some (p, a, c) → q = p ++ [a, c]
  | [x, y], p, a, c, h => by
    simp only [lastTwo, Option.some.injEq, Prod.mk.injEq] at h
    obtain ⟨rfl, rfl, rfl⟩ := h
    rfl
  | x :: y :: z :: r, p, a, c, h => by
    simp only [lastTwo] at h
    split at h
    · rename_i p' a' c' hr
      injection h with h
      injection h with h1 h
      injection h with h2 h3
      subst h1; subst h2; subst h3
      have := lastTwo_ok hr
      rw [this]; rfl
    · cases h
  | [x], _, _, _, h => by simp [lastTwo] at h
  | [], _, _, _, h => by simp [lastTwo] at h

/-- A tree that lies in a cell of a node. -/
def takeP (b0 : Blk) (p : List Nat) (a c sz : Nat) (K : Nat → (Nat → Nat → MV) → Prop) : Prop :=
  descC b0 p (fun x => sideP (Nat.blt a x.len) (sideP (Nat.blt c x.sz) (match x.f a c with
    | .tr true sz2 l2 f2 => sideP (Nat.beq sz2 sz) (K l2 f2)
    | _ => False)))

theorem takeP_at {b0 : Blk} {p : List Nat} {a c sz : Nat} {K : Nat → (Nat → Nat → MV) → Prop} (h : takeP b0 p a c sz K) : ∃ l2 f2, K l2 f2 ∧ descP b0 p (fun x => a < x.len ∧ c < x.sz ∧ x.f a c = .tr true sz l2 f2) ∧ ∀ K' : Nat → (Nat → Nat → MV) → Prop, K' l2 f2 → takeP b0 p a c sz K' := by
  unfold takeP at h
  obtain ⟨b', hb, hd, hc⟩ := descC_at h
  obtain ⟨h1, hb⟩ := hb.lt
  obtain ⟨h2, h3⟩ := hb.lt
  split at h3
  · rename_i sz2 l2 f2 hf
    obtain ⟨rfl, hk⟩ := h3.eq
    refine ⟨l2, f2, hk, desc_mono p (fun x hx => by subst hx; exact ⟨h1, h2, hf⟩) hd, fun K' hk' => ?_⟩
    unfold takeP
    refine hc _ (side_lt h1 (side_lt h2 ?_))
    rw [hf]
    exact side_eq rfl hk'
  · exact h3.elim

def appP (i : TyI) (len n : Nat) (K : Prop) : Prop := sideP (Nat.ble (len + n) 1000000000) (sideP (Nat.ble i.bytes 100000) K)

/-- The effects. -/
def effO (T : TyT) (dst : Option Nat) (ev : Operand → MV) (bl : Nat → Option Blk) (vr : Nat → Nat) (op : Op) (K : Eff → Prop) : Prop :=
  match op with
  | .alloc t => (match T t, dst with
    | some i, some d => K ⟨.ptr [d] (vr d + 1) i.sz 0 0, [(d, some ⟨i.sz, 1, fun _ j => cv (i.zero.getD j undef)⟩, true)], [d]⟩
    | _, _ => False)
  | .box _ x => (match dst with
    | some d => cellsM (ev x) (fun n f => K ⟨.ptr [d] (vr d + 1) n 0 0, [(d, some ⟨n, 1, fun _ j => f j⟩, true)], [d]⟩)
    | none => False)
  | .build t ps => (match T t with
    | some ⟨z, by_, .struct fl⟩ => fillM (placeS T fl) z.length (ps.toList.map fun (i, x) => (i, ev x)) (fun j => cv (z.getD j undef)) (fun g => K ⟨.agg z.length g, [], []⟩)
    | _ => False)
  | .buildSlice t n ps => (match T t, dst with
    | some ⟨_, _, .slice e⟩, some d => (match T e with
      | some i => (match Nat.ble (n * i.sz) 16777216 && Nat.ble 1 i.sz with
        | true => fillM (fun q => some (q * i.sz, i.sz)) (n * i.sz) (ps.toList.map fun (i, x) => (i, ev x)) (fun j => cv (i.zero.getD (j % i.sz) undef)) (fun g => K ⟨.ref [d] (vr d + 1) i.sz 0 n, [(d, some ⟨i.sz, n, fun q j => g (q * i.sz + j)⟩, true)], [d]⟩)
        | false => False)
      | none => False)
    | _, _ => False)
  | .makeSlice t l c => (match T t, dst with
    | some ⟨_, _, .slice e⟩, some d => (match T e with
      | some i => (match ev l, ev c with
        | .v (.int .i64 n), .v (.int .i64 n') => idxP n (fun m => idxP n' (fun m' => sideP (Nat.beq m' m) (sideP (Nat.ble m 1000000000) (sideP (Nat.ble i.bytes 100000) (sideP (Nat.ble 1 i.sz) (K ⟨.ref [d] (vr d + 1) i.sz 0 m, [(d, some ⟨i.sz, m, fun _ j => cv (i.zero.getD j undef)⟩, true)], [d]⟩))))))
        | _, _ => False)
      | none => False)
    | _, _ => False)
  | .load t p => (match T t with
    | some i => (match (i.kd.agg || Nat.beq i.sz 1) with
      | true => (match ev p with
        | .ptr (n :: q) ver sz r j => sideP (Nat.beq ver (vr n)) (nodeC bl (n :: q) (fun b => sideP (Nat.beq b.sz sz) (sideP (Nat.blt r b.len) (sideP (Nat.ble (j + i.sz) sz) (K ⟨loadM i (fun d => liftM ver (n :: q ++ [r, j + d]) (b.f r (j + d))), [], [n]⟩)))))
        | .fptr sz len f r j => sideP (Nat.blt r len) (sideP (Nat.ble (j + i.sz) sz) (K ⟨loadM i (fun d => f r (j + d)), [], []⟩))
        | _ => False)
      | false => False)
    | none => False)
  | .store t p y => (match T t with
    | some i => (match ev p with
      | .ptr (n :: q) ver sz r j => (match bl n with
        | some b0 => sideP (Nat.beq ver (vr n)) (descC b0 q (fun b => sideP (Nat.beq b.sz sz) (sideP (Nat.blt r b.len) (sideP (Nat.ble (j + i.sz) sz) (cellsM (ev y) (fun m f => match Nat.beq m i.sz with
          | true => K ⟨.any, [(n, some (updB b0 q r j i.sz f), false)], [n]⟩
          | false => False))))))
        | none => False)
      | _ => False)
    | none => False)
  | .call ⟨.builtin .append, args, tys⟩ => (match args.toList, tys.toList with
    | [s, x], [t, tx] => (match T t, T tx with
      | some ⟨_, _, .slice e⟩, some ⟨_, _, .slice _⟩ => (match T e with
        | some i => srcM ev bl vr x i.sz (fun n f ft => match ev s with
          | .v (.slice none 0 0) => (match dst with
            | some d => appP i 0 n (K ⟨.ref [d] (vr d + 1) i.sz 0 n, [(d, some ⟨i.sz, n, f⟩, true)], d :: ft⟩)
            | none => False)
          | .ref [m] ver sz off len => (match Nat.beq sz i.sz, bl m with
            | true, some b => sideP (Nat.beq ver (vr m)) (sideP (Nat.beq b.sz i.sz) (sideP (Nat.ble (off + len) b.len) (appP i len n (K ⟨.ref [m] (ver + 1) i.sz 0 (len + n), [(m, some ⟨i.sz, len + n, rowsM len (offRows off b.f) f⟩, true)], m :: ft⟩))))
            | _, _ => False)
          | .ref (m :: q) ver sz off len => (match Nat.beq sz i.sz, bl m, dst, lastTwo q with
            | true, some b0, some d, some (p, a, c) => sideP (Nat.beq ver (vr m)) (sideP (!Nat.beq m d) (takeP b0 p a c i.sz (fun l2 f2 => sideP (Nat.ble (off + len) l2) (appP i len n (K ⟨.ref [d] (vr d + 2) i.sz 0 (len + n), [(m, some (updB b0 p a c 1 (fun _ => .any)), false), (d, some ⟨i.sz, l2, f2⟩, true), (d, some ⟨i.sz, len + n, rowsM len (offRows off f2) f⟩, true)], d :: m :: ft⟩)))))
            | _, _, _, _ => False)
          | _ => False)
        | none => False)
      | _, _ => False)
    | _, _ => False)
  | op => effV T ev op (fun m => K ⟨m, [], []⟩)

section
variable {P : Program} {T : TyT} {st : St} {o : Oper} {K : Eff → Prop}

theorem beq_of {a b : Nat} (h : Nat.beq a b = true) : a = b := Nat.eq_of_beq_eq_true h

theorem step_of_gives {m : MV} {ft : List Nat} (hd : dstOk st.nt o.dst = true) (h : Gives P o st m) : Step P o st (st.app o.dst ⟨m, [], ft⟩) := step_val hd h

theorem effV_step (hT : TOk P T) (hd : dstOk st.nt o.dst = true) {K : MV → Prop} (h : effV T (evS st.tm) o.op K) : ∃ m, K m ∧ Gives P o st m := by
  generalize hop : o.op = op at h
  unfold effV at h
  split at h
  · exact ⟨_, h, gives_same (.inl hop)⟩
  · exact ⟨_, h, gives_same (.inr hop)⟩
  · rename_i c a b
    split at h
    · rename_i t hc
      rcases h.ok with ⟨rfl, h⟩ | ⟨rfl, h⟩
      · exact ⟨_, h, gives_pick hop hc⟩
      · exact ⟨_, h, gives_pick hop hc⟩
    · cases h
  · rename_i x
    split at h
    · rename_i k ver sz i j hx
      exact ⟨_, h, gives_nilCheck hop hx (.inl ⟨_, _, _, _, _, rfl⟩)⟩
    · rename_i sz len f i j hx
      exact ⟨_, h, gives_nilCheck hop hx (.inr ⟨_, _, _, _, _, rfl⟩)⟩
    · cases h
  · rename_i x n
    split at h
    · rename_i m f hx
      split at h
      · rename_i hlt
        exact ⟨_, h, gives_extract hop hx (by simp [Nat.blt] at hlt; exact hlt)⟩
      · cases h
    · cases h
  · exact gives_bin hop h
  · exact gives_un hop h
  · rename_i t x n
    split at h
    · rename_i z by_ fl ht
      split at h
      · rename_i off t' hf
        split at h
        · rename_i i hi
          split at h
          · cases h
          · rename_i m hs
            have hs' : i.sz ≠ 0 := by omega
            split at h
            · rename_i k ver sz r j hx
              exact ⟨_, h, gives_fieldAddr hop (hT _ _ ht) hf (hT _ _ hi) hs' hx⟩
            · rename_i sz len f r j hx
              exact ⟨_, h, gives_fieldAddrF hop (hT _ _ ht) hf (hT _ _ hi) hs' hx⟩
            · cases h
        · cases h
      · cases h
    · cases h
  · rename_i t x n
    split at h
    · rename_i z by_ fl ht
      split at h
      · rename_i off t' hf
        split at h
        · rename_i m f hx
          exact gives_field hT hop (hT _ _ ht) hf hx h
        · cases h
      · cases h
    · cases h
  · rename_i t x y
    split at h
    · rename_i z by_ e ht
      split at h
      · rename_i i hi
        split at h
        · rename_i k ver sz off len kk n hx hy
          split at h
          · rename_i hs
            obtain rfl := beq_of hs
            obtain ⟨h0, h⟩ := h.ok
            obtain ⟨h1, h⟩ := h.lt
            exact ⟨_, h, gives_indexAddr hop (hT _ _ ht) (hT _ _ hi) hx hy h0 (by omega)⟩
          · cases h
        · rename_i sz len f kk n hx hy
          split at h
          · rename_i hs
            obtain rfl := beq_of hs
            obtain ⟨h0, h⟩ := h.ok
            obtain ⟨h1, h⟩ := h.lt
            exact ⟨_, h, gives_indexAddrF hop (hT _ _ ht) (hT _ _ hi) hx hy h0 (by omega)⟩
          · cases h
        · cases h
      · cases h
    · cases h
  · rename_i t x y
    split at h
    · rename_i z by_ ht
      split at h
      · rename_i s kk n hx hy
        obtain ⟨h0, h⟩ := h.ok
        obtain ⟨b, hb, h⟩ := strP_at h
        exact ⟨_, h, gives_index hop (hT _ _ ht) hx hy h0 hb⟩
      · cases h
    · cases h
  · rename_i t x lo hi
    split at h
    · rename_i z by_ e ht
      split at h
      · rename_i i hi'
        split at h
        · rename_i k ver sz off len hx
          split at h
          · rename_i hs
            obtain rfl := beq_of hs
            obtain ⟨l, h, h1, _⟩ := bndC_at h
            obtain ⟨h', h, h2, _⟩ := bndC_at h
            obtain ⟨h3, h⟩ := h.le
            obtain ⟨h4, h5⟩ := h.le
            exact ⟨_, h5, gives_slice hop (hT _ _ ht) (hT _ _ hi') hx h1 h2 h3 h4⟩
          · cases h
        · rename_i sz len f hx
          split at h
          · rename_i hs
            obtain rfl := beq_of hs
            obtain ⟨l, h, h1, _⟩ := bndC_at h
            obtain ⟨h', h, h2, _⟩ := bndC_at h
            obtain ⟨h3, h⟩ := h.le
            obtain ⟨h4, h5⟩ := h.le
            exact ⟨_, h5, gives_sliceF hop (hT _ _ ht) (hT _ _ hi') hx h1 h2 h3 h4⟩
          · cases h
        · rename_i hx
          obtain ⟨l, h, h1, _⟩ := bndC_at h
          obtain ⟨h', h, h2, _⟩ := bndC_at h
          obtain ⟨h3, h⟩ := h.le
          obtain ⟨h4, h5⟩ := h.le
          exact ⟨_, h5, gives_sliceN hop (hT _ _ ht) (hT _ _ hi') hx h1 h2 h3 h4⟩
        · cases h
      · cases h
    · rename_i z by_ ht
      split at h
      · rename_i s hx
        obtain ⟨l, h, h1, _⟩ := bndC_at h
        obtain ⟨h', h, h2, _⟩ := bndC_at h
        obtain ⟨h3, h⟩ := h.le
        obtain ⟨h4, h5⟩ := h.le
        exact ⟨_, h5, gives_sliceS hop (hT _ _ ht) hx h1 h2 h3 h4⟩
      · cases h
    · cases h
  · rename_i s t x
    split at h
    · rename_i zs bs ks zt bt kt kk n hs ht hx
      exact ⟨_, h, gives_convert hop (hT _ _ hs) (hT _ _ ht) hx⟩
    · cases h
  · rename_i args tys
    split at h
    · rename_i x t hx ht
      obtain rfl : args = #[x] := by apply Array.ext'; simpa using hx
      obtain rfl : tys = #[t] := by apply Array.ext'; simpa using ht
      split at h
      · rename_i z by_ e hk
        have hu := (hT _ _ hk).kd
        simp only [Kd.Ok] at hu
        have h' : lenO (evS st.tm x) (fun n => K (.v (.int .i64 n))) ∧ ∀ s, evS st.tm x ≠ .v (.string s) := by
          split at h
          · cases h
          · rename_i hne
            exact ⟨h, fun s hs => hne s hs⟩
        obtain ⟨n, hn, hlen⟩ : ∃ n : Nat, K (.v (.int .i64 n)) ∧ ∀ {w : World} {G : Gh} {c : Value}, R w G [] (evS st.tm x) c → ∃ b cp, c = .slice b n cp := by
          obtain ⟨h, hne⟩ := h'
          generalize evS st.tm x = m at h hne
          unfold lenO at h
          split at h
          · exact ⟨_, h, fun hc => by cases hc; exact ⟨_, _, rfl⟩⟩
          · exact ⟨_, h, fun hc => by cases hc <;> exact ⟨_, _, rfl⟩⟩
          · exact ⟨_, h, fun hc => by cases hc; exact ⟨_, _, rfl⟩⟩
          · exact absurd rfl (hne _)
          · cases h
        refine ⟨_, hn, fun w0 O a w G hI => ?_⟩
        obtain ⟨b, cp, hc⟩ := hlen (hI.ev x)
        exact ⟨_, by simp [execOp, hop, resolve, invoke, builtin, hc, run_len_slice hu], .v⟩
      · rename_i z by_ hk
        have hu := (hT _ _ hk).kd
        simp only [Kd.Ok] at hu
        split at h
        · rename_i s hs
          refine ⟨_, h, fun w0 O a w G hI => ?_⟩
          have e1 := hI.ev x
          rw [hs] at e1
          replace e1 := e1.v_inv
          exact ⟨_, by simp [execOp, hop, resolve, invoke, builtin, e1, run_len_str hu], .v⟩
        · cases h
      · cases h
    · cases h
  · rename_i args tys
    split at h
    · rename_i x y hx
      obtain rfl : args = #[x, y] := by apply Array.ext'; simpa using hx
      split at h
      · rename_i k a kk b hx hy
        refine ⟨_, h, fun w0 O A w G hI => ?_⟩
        have e1 := hI.ev x
        have e2 := hI.ev y
        rw [hx] at e1
        rw [hy] at e2
        replace e1 := e1.v_inv
        replace e2 := e2.v_inv
        exact ⟨_, by simp [execOp, hop, resolve, invoke, builtin, e1, e2, Builtin.min_, Builtin.min2], .v⟩
      · cases h
    · cases h
  · rename_i args tys
    split at h
    · rename_i x y hx
      obtain rfl : args = #[x, y] := by apply Array.ext'; simpa using hx
      split at h
      · rename_i k a kk b hx hy
        refine ⟨_, h, fun w0 O A w G hI => ?_⟩
        have e1 := hI.ev x
        have e2 := hI.ev y
        rw [hx] at e1
        rw [hy] at e2
        replace e1 := e1.v_inv
        replace e2 := e2.v_inv
        exact ⟨_, by simp [execOp, hop, resolve, invoke, builtin, e1, e2, Builtin.max_, Builtin.max2], .v⟩
      · cases h
    · cases h
  · cases h

theorem srcM_ok {tx e sz : Nat} {x : Operand} (hk : P.underlying tx = some (.slice e)) {K : Nat → (Nat → Nat → MV) → List Nat → Prop} (h : srcM (evS st.tm) st.bl st.vr x sz K) : ∃ n f ft, K n f ft ∧ SrcOk P st tx sz x n f := by
  unfold srcM at h
  split at h
  · rename_i c hx
    exact ⟨_, _, _, h, src_nil hk hx⟩
  · rename_i sz' n f hx
    split at h
    · rename_i hs
      obtain rfl := beq_of hs
      exact ⟨_, _, _, h, src_tr hk hx⟩
    · cases h
  · rename_i m p ver sz' off n hx
    split at h
    · rename_i hs
      obtain rfl := beq_of hs
      obtain ⟨hv, hn⟩ := h.eq
      obtain ⟨b, hb, hn', _⟩ := nodeC_at hn
      obtain ⟨b1, hb⟩ := hb.eq
      obtain ⟨b2, hb⟩ := hb.le
      exact ⟨_, _, _, hb, src_ref hk hx hv hn' ⟨b1, b2⟩⟩
    · cases h
  · cases h

theorem app_ok {i : TyI} {len n : Nat} {K : Prop} (h : appP i len n K) : ((len + n) * i.bytes ≤ 140737488355328 ∧ len + n ≤ maxLen) ∧ len + n ≤ 1000000000 ∧ i.bytes ≤ 100000 ∧ K := by
  unfold appP at h
  obtain ⟨h1, h⟩ := h.le
  obtain ⟨h2, h⟩ := h.le
  refine ⟨⟨?_, ?_⟩, h1, h2, h⟩
  · have := Nat.mul_le_mul h1 h2
    omega
  · unfold maxLen; omega

theorem mod_idx {sz q j : Nat} (hj : j < sz) : (q * sz + j) % sz = j := by
  rw [Nat.add_comm, Nat.add_mul_mod_self_right, Nat.mod_eq_of_lt hj]

theorem zero_rows {t : Nat} {i : TyI} (h : TyOk P t i) (N : Nat) (h1 : 1 ≤ i.sz) (w : World) (G : Gh) {z : Array Value} (hz : z.toList = i.zero) : CellsR w G (N * i.sz) (fun j => cv (i.zero.getD (j % i.sz) undef)) ((Array.range (N * i.sz)).map (z[· % z.size]!)) := by
  refine ⟨by simp, fun j hj => ?_⟩
  have hzs : z.size = i.sz := by rw [← Array.length_toList, hz]; rfl
  have hlt : j % i.sz < i.zero.length := Nat.mod_lt _ h1
  obtain ⟨c, c1, c2, c3⟩ := (h.zeroR w G).2 (j % i.sz) hlt
  rw [List.getElem?_toArray] at c1
  have hg : i.zero.getD (j % i.sz) undef = c := by rw [List.getD_eq_getElem?_getD, c1]; rfl
  refine ⟨c, ?_, c2, by simp only [hg]; exact R.cv c⟩
  have : z[j % z.size]! = c := by
    rw [hzs]
    have e : z[j % i.sz]? = some c := by rw [← Array.getElem?_toList, hz]; exact c1
    rw [getElem!_def, e]
  simp [hj, this]

theorem fill_mono {place place' : Nat → Option (Nat × Nat)} (h : ∀ q p, place q = some p → place' q = some p) : ∀ (vs : List (Nat × Value)) (cs : Array Value) {r : Array Value}, Instr.fill place cs vs = some r → Instr.fill place' cs vs = some r
  | [], _, _, hr => hr
  | (i, v) :: vs, cs, r, hr => by
    unfold Instr.fill at hr ⊢
    split at hr
    · cases hr
    · rename_i off size hp
      simp only [h i _ hp]
      split at hr
      · cases hr
      · rename_i hc
        rw [if_neg hc]
        exact fill_mono h vs _ hr

theorem built_ok {t : Nat} {z : List Value} {by_ : Nat} {fl : List (Nat × Nat)} (hT : TOk P T) (hTt : TyOk P t ⟨z, by_, .struct fl⟩) {parts : List (Nat × Value)} {cs' : Array Value} (h : Instr.fill (placeS T fl) z.toArray parts = some cs') : P.built t parts = some cs' := by
  obtain ⟨fs, f1, f2, f3⟩ := hTt.kd
  obtain ⟨ti, zz, i1, i2, i3, i4, i5⟩ := hTt.info
  obtain ⟨pl, hpl⟩ := Option.isSome_iff_exists.1 f3
  have hzz : zz.cells = z.toArray := by apply Array.ext'; simpa using i3
  unfold Program.built
  simp only [i1, f1, i2, hpl, hzz]
  refine fill_mono (fun q p hq => ?_) _ _ h
  unfold placeS at hq
  split at hq
  · rename_i off t' hf
    split at hq
    · rename_i i hi
      injection hq with hq
      subst hq
      rw [← f2, List.getElem?_map] at hf
      cases hfq : fs.toList[q]? with
      | none => rw [hfq] at hf; cases hf
      | some fd =>
        rw [hfq] at hf
        simp only [Option.map_some, Option.some.injEq, Prod.mk.injEq] at hf
        obtain ⟨rfl, rfl⟩ := hf
        have := mapM_some_get hpl q fd hfq
        obtain ⟨x, _, x1, _, _, x4, _⟩ := (hT _ _ hi).info
        rw [x1] at this
        simp only [Option.map_some] at this
        rw [List.getElem?_toArray, ← this, x4]
        rfl
    · cases hq
  · cases hq

theorem effO_step (hT : TOk P T) (hd : dstOk st.nt o.dst = true) (h : effO T o.dst (evS st.tm) st.bl st.vr o.op K) : ∃ e, K e ∧ Step P o st (st.app o.dst e) := by
  generalize hop : o.op = op at h
  unfold effO at h
  split at h
  · -- alloc
    rename_i t
    split at h
    · rename_i i d hi hdd
      refine ⟨_, h, step_var hd fun w0 O a w G hI => ⟨_, _, (hT _ _ hi).zeroR w G, by simp [execOp, hop, run_alloc (hT _ _ hi)]; rfl⟩⟩
    · cases h
  · -- box
    rename_i t x
    split at h
    · rename_i d hdd
      obtain ⟨n, f, h, hc⟩ := cellsM_of (w := default) (G := ⟨fun _ => [], fun _ => 0, fun _ => 0, fun _ => false⟩) h
      exact ⟨_, h, step_var hd fun w0 O a w G hI => ⟨_, _, hc (hI.ev x), by simp [execOp, hop, run_box]; rfl⟩⟩
    · cases h
  · -- build
    rename_i t ps
    split at h
    · rename_i z by_ fl ht
      have hTt := hT _ _ ht
      obtain ⟨g, hK, hfill⟩ := fill_ok _ _ _ _ _ h
      refine ⟨_, hK, step_of_gives hd fun w0 O a w G hI => ?_⟩
      obtain ⟨p1, p2⟩ := parts_ok hI ps
      obtain ⟨cs', c1, c2⟩ := hfill (w := w) (G := G) _ _ p1 p2 (hTt.zeroR w G)
      have hpl : P.built t (ps.map fun (i, x) => (i, a.eval x)).toList = some cs' := built_ok hT hTt c1
      exact ⟨_, by simp [execOp, hop, run_build w t _ cs' hpl], .agg c2.1 (fun j => (cs'[j]?).getD undef) (fun j hj => by obtain ⟨u, u1, _⟩ := c2.2 j hj; simp [u1]) (fun j hj => by obtain ⟨u, u1, u2, _⟩ := c2.2 j hj; simpa [u1] using u2) (fun j hj => by obtain ⟨u, u1, _, u3⟩ := c2.2 j hj; simpa [u1] using u3)⟩
    · cases h
  · -- buildSlice
    rename_i t n ps
    split at h
    · rename_i z by_ e d ht hdd
      split at h
      · rename_i i hi
        split at h
        · rename_i hb
          rw [Bool.and_eq_true] at hb
          have hb1 : n * i.sz ≤ 16777216 := by simpa using hb.1
          have hb2 : 1 ≤ i.sz := by simpa using hb.2
          obtain ⟨g, hK, hfill⟩ := fill_ok _ _ _ _ _ h
          refine ⟨_, hK, step_row hd (by unfold maxLen; have := Nat.le_mul_of_pos_right n hb2; omega) fun w0 O a w G hI => ?_⟩
          obtain ⟨p1, p2⟩ := parts_ok hI ps
          obtain ⟨ti, zz, i1, i2, i3, i4, i5⟩ := (hT _ _ hi).info
          have hu := (hT _ _ ht).kd
          simp only [Kd.Ok] at hu
          obtain ⟨cs', c1, c2⟩ := hfill (w := w) (G := G) _ _ p1 p2 (zero_rows (hT _ _ hi) n hb2 w G i3)
          refine ⟨cs', e, ⟨by rw [c2.1]; exact Nat.le_refl _, fun q j hq hj => c2.2 _ (idx_lt hq hj)⟩, ?_⟩
          rcases Nat.eq_zero_or_pos n with h0 | hpos
          · subst h0
            have hcs : cs' = #[] := Array.eq_empty_of_size_eq_zero (by simpa using c2.1)
            have hr0 : ∀ (f : Nat → Value), (Array.range 0).map f = #[] := fun f => by simp
            have hsz : ti.size = i.sz := i4
            rw [Nat.zero_mul, hr0, hcs, ← hsz] at c1
            subst hcs
            simp [execOp, hop, Instr.buildSlice, run_und hu, sizeOf, typeInfo, i1, hr0]
            rw [Array.toList_map] at c1
            simp [c1, newRow]
          · have hsz : ti.size = i.sz := i4
            have hrun := run_buildSlice (P := P) w t e n (ps.map fun (i, x) => (i, a.eval x)) cs' ti zz hu i1 i2 (by rw [hsz]; omega) (by rw [hsz]; have := Nat.mul_pos hpos hb2; omega) (by rw [hsz]; exact c1)
            simp [execOp, hop, hrun]
        · cases h
      · cases h
    · cases h
  · -- makeSlice
    rename_i t l c
    split at h
    · rename_i z by_ e d ht hdd
      split at h
      · rename_i i hi
        split at h
        · rename_i n n' hl hc
          obtain ⟨h0, h⟩ := h.ok
          obtain ⟨h0', h⟩ := h.ok
          obtain ⟨hnn, h⟩ := h.eq
          obtain ⟨hn, h⟩ := h.le
          obtain ⟨hby, h⟩ := h.le
          obtain ⟨h1, hK⟩ := h.le
          obtain ⟨m, rfl⟩ := Int.eq_ofNat_of_zero_le h0
          obtain ⟨m', rfl⟩ := Int.eq_ofNat_of_zero_le h0'
          simp only [Int.toNat_natCast] at hK hnn hn
          replace hnn := hnn.symm
          subst hnn
          refine ⟨_, hK, step_row hd (by unfold maxLen; omega) fun w0 O a w G hI => ?_⟩
          obtain ⟨ti, zz, i1, i2, i3, i4, i5⟩ := (hT _ _ hi).info
          have hu := (hT _ _ ht).kd
          simp only [Kd.Ok] at hu
          have e1 := hI.ev l
          have e2 := hI.ev c
          rw [hl] at e1
          rw [hc] at e2
          replace e1 := e1.v_inv
          replace e2 := e2.v_inv
          have hz := zero_rows (hT _ _ hi) m h1 w G i3
          refine ⟨_, e, ⟨by rw [hz.1]; exact Nat.le_refl _, fun q j hq hj => ?_⟩, ?_⟩
          · have := hz.2 _ (idx_lt hq hj)
            simp only [mod_idx hj] at this
            exact this
          · have hbig : ¬ (281474976710656 < (ti.bytes : Int) * (m : Int)) := by
              rw [i5]
              have := Nat.mul_le_mul hby (show m ≤ 1000000000 by omega)
              have h2 : (i.bytes : Int) * (m : Int) = ((i.bytes * m : Nat) : Int) := by simp
              rw [h2]
              omega
            have hw : IntKind.i64.wrap (m : Int) = m := IntWalk.i64_in _ (by omega)
            have hneg : ¬ ((m : Int) < 0) := by omega
            have hroom : ∀ (x : Nat) (w : World), (askRoom x).run P w = .ok () w := fun x w => by unfold askRoom; split <;> rfl
            simp [execOp, hop, Instr.makeSlice, run_und hu, asInt, asIntOf, e1, e2, sizeOf, typeInfo, zeroValue, i1, i2, i4, hw, hbig, hneg, hroom, newRow]
            change (if m * i.sz = 0 then _ else _) = _
            split
            · rename_i h00
              have e0 : Array.range (m * i.sz) = #[] := by rw [h00]; rfl
              rw [show i.zero.length = i.sz from rfl, e0]
              simp
            · rfl
        · cases h
      · cases h
    · cases h
  · -- load
    rename_i t p
    split at h
    · rename_i i hi
      split at h
      · rename_i hz
        have hz' : i.kd.agg = false → i.sz = 1 := fun e => by rw [e] at hz; simpa using hz
        split at h
        · rename_i n q ver sz r j hp
          obtain ⟨hv, hn⟩ := h.eq
          obtain ⟨b, hb, hn', _⟩ := nodeC_at hn
          obtain ⟨b1, hb⟩ := hb.eq
          obtain ⟨b2, hb⟩ := hb.lt
          obtain ⟨b3, hb⟩ := hb.le
          exact ⟨_, hb, step_of_gives hd (gives_load hop (hT _ _ hi) hz' hp hv hn' ⟨b1, b2, b3⟩)⟩
        · rename_i sz len f r j hp
          obtain ⟨b2, h⟩ := h.lt
          obtain ⟨b3, h⟩ := h.le
          exact ⟨_, h, step_of_gives hd (gives_loadF hop (hT _ _ hi) hz' hp ⟨b2, b3⟩)⟩
        · cases h
      · cases h
    · cases h
  · -- store
    rename_i t p y
    split at h
    · rename_i i hi
      split at h
      · rename_i n q ver sz r j hp
        split at h
        · rename_i b0 hb0
          obtain ⟨hv, h⟩ := h.eq
          obtain ⟨b, h, hdp', _⟩ := descC_at h
          obtain ⟨b1, h⟩ := h.eq
          obtain ⟨b2, h⟩ := h.lt
          obtain ⟨b3, h⟩ := h.le
          obtain ⟨m, f, h, hc⟩ := cellsM_of (w := default) (G := ⟨fun _ => [], fun _ => 0, fun _ => 0, fun _ => false⟩) h
          split at h
          · rename_i hm
            obtain rfl := beq_of hm
            exact ⟨_, h, step_store hop (hT _ _ hi) hd hp hv hb0 hdp' ⟨b1, b2, b3⟩ (fun {w G c} hR => hc hR)⟩
          · cases h
        · cases h
      · cases h
    · cases h
  · -- append
    rename_i args tys
    split at h
    · rename_i s x t tx ha ht
      obtain rfl : args = #[s, x] := by apply Array.ext'; simpa using ha
      obtain rfl : tys = #[t, tx] := by apply Array.ext'; simpa using ht
      split at h
      · rename_i z by_ e z2 by2 e2 hk hk2
        split at h
        · rename_i i hi
          have hkx := (hT _ _ hk2).kd
          simp only [Kd.Ok] at hkx
          obtain ⟨n, f, ft, h, hsrc⟩ := srcM_ok (P := P) hkx h
          split at h
          · rename_i hs
            split at h
            · rename_i d hdd
              obtain ⟨hb, _, _, h⟩ := app_ok h
              rw [Nat.zero_add] at hb
              exact ⟨_, h, step_append_nil hop (hT _ _ hk) (hT _ _ hi) hd d hs hsrc hb.1 hb.2⟩
            · cases h
          · rename_i m ver sz off len hs
            split at h
            · rename_i b hsz hb
              obtain rfl := beq_of hsz
              obtain ⟨hv, h⟩ := h.eq
              obtain ⟨b1, h⟩ := h.eq
              obtain ⟨b2, h⟩ := h.le
              obtain ⟨hb', _, _, h⟩ := app_ok h
              exact ⟨_, h, step_append_root hop (hT _ _ hk) (hT _ _ hi) hd hs hv hb ⟨b1, b2⟩ hsrc hb'.1 hb'.2⟩
            · cases h
          · rename_i m q ver sz off len hnq hs
            split at h
            · rename_i b0 d p a c hsz hb hdd hq
              obtain rfl := beq_of hsz
              obtain ⟨hv, h⟩ := h.eq
              obtain ⟨hmd, h⟩ := h.ok
              have hmd : m ≠ d := fun e => by subst e; rw [Nat.beq_refl] at hmd; cases hmd
              obtain ⟨l2, f2, h, hdp, _⟩ := takeP_at h
              obtain ⟨hle, h⟩ := h.le
              obtain ⟨hb', _, _, h⟩ := app_ok h
              rw [lastTwo_ok hq] at hs
              exact ⟨_, h, step_append_cell hop (hT _ _ hk) (hT _ _ hi) hd hs hv hmd hb hdp hle hsrc hb'.1 hb'.2⟩
            · cases h
          · cases h
        · cases h
      · cases h
    · cases h
  · -- the others
    obtain ⟨m, h1, h2⟩ := effV_step (o := o) hT hd (by rw [hop]; exact h)
    exact ⟨_, h1, step_of_gives hd h2⟩

end

end Go.Proofs.YtiimdlkeikcfiaaGreat.M
