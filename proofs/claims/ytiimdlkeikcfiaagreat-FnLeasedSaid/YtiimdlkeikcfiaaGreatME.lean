/- Places, parts, slices: what the operations give. -/
import Derived.Test.YtiimdlkeikcfiaaGreatMD
namespace Go.Proofs.YtiimdlkeikcfiaaGreat.M
open Go.RowKit

section
variable {P : Program} {T : TyT} {st : St} {o : Oper} {K : MV → Prop}

theorem run_sz {t : Nat} {i : TyI} (h : TyOk P t i) (w : World) : (sizeOf t).run P w = .ok i.sz w := by
  obtain ⟨x, z, h1, h2, h3, h4, h5⟩ := h.info
  simp [sizeOf, typeInfo, h1, h4, TyI.sz]

theorem run_und {t : Nat} {d : TypeDesc} (h : P.underlying t = some d) (w : World) : (underlying t).run P w = .ok d w := by
  simp [underlying, h]

theorem TyOk.isAgg {t : Nat} {i : TyI} (h : TyOk P t i) (w : World) : (isAgg t).run P w = .ok i.kd.agg w := by
  have := h.kd
  unfold Go.isAgg
  rw [Sem.run_bind]
  cases hk : i.kd with
  | other =>
    rw [hk] at this
    obtain ⟨d, h1, h2⟩ := this
    rw [run_und h1]
    cases d <;> first | rfl | cases h2
  | struct fl =>
    rw [hk] at this
    obtain ⟨fs, h1, h2, _⟩ := this
    rw [run_und h1]
    rfl
  | _ =>
    rw [hk] at this
    rw [run_und this]
    rfl

theorem run_fieldAddr {t n off t' : Nat} {z : List Value} {by_ : Nat} {fl : List (Nat × Nat)} {i : TyI} (hT : TyOk P t ⟨z, by_, .struct fl⟩) (hf : fl[n]? = some (off, t')) (hi : TyOk P t' i) (hs : i.sz ≠ 0) (a : Addr) (w : World) :
    (Instr.fieldAt t (.pointer (some a)) n).run P w = .ok (.pointer (some (a.add off))) w := by
  obtain ⟨fs, h1, h2, _⟩ := hT.kd
  have h3 : (fs.toList.map (fun f => (f.offset, f.type)))[n]? = some (off, t') := by rw [h2]; exact hf
  rw [List.getElem?_map] at h3
  cases hfn : fs.toList[n]? with
  | none => rw [hfn] at h3; cases h3
  | some f =>
    rw [hfn] at h3
    simp only [Option.map_some, Option.some.injEq, Prod.mk.injEq] at h3
    obtain ⟨rfl, rfl⟩ := h3
    have hfn' : fs[n]? = some f := by rw [← Array.getElem?_toList]; exact hfn
    simp [Instr.fieldAt, run_und h1, hfn', Instr.sureAddr, fieldPlace, run_sz hi, hs]

theorem R.ptr_add {w : World} {G : Gh} {k k' : List Nat} {ver sz r j off : Nat} {a : Addr} (h : R w G k' (.ptr k ver sz r j) (.pointer (some a))) : R w G k' (.ptr k ver sz r (j + off)) (.pointer (some (a.add off))) := by
  cases h with
  | ptr hs hv =>
    refine .ptr hs fun e β hβ => ?_
    rw [hv e β hβ, Addr.add_mid]
    simp only [Nat.add_assoc]

theorem R.fptr_add {w : World} {G : Gh} {k' : List Nat} {sz len r j off : Nat} {f : Nat → Nat → MV} {a : Addr} (h : R w G k' (.fptr sz len f r j) (.pointer (some a))) : R w G k' (.fptr sz len f r (j + off)) (.pointer (some (a.add off))) := by
  cases h with
  | fptr g hf hb hg h1 hr =>
    rw [Addr.add_mid]
    have := R.fptr (k' := k') (i := r) (j := j + off) g hf hb hg h1 hr
    simpa only [Nat.add_assoc] using this

theorem gives_fieldAddr {t n off t' : Nat} {z : List Value} {by_ : Nat} {fl : List (Nat × Nat)} {i : TyI} {x : Operand} (ho : o.op = .fieldAddr t x n) (hT : TyOk P t ⟨z, by_, .struct fl⟩) (hf : fl[n]? = some (off, t')) (hi : TyOk P t' i) (hs : i.sz ≠ 0) {k : List Nat} {ver sz r j : Nat}
    (hx : evS st.tm x = .ptr k ver sz r j) : Gives P o st (.ptr k ver sz r (j + off)) := by
  intro w0 O A w G hI
  have e1 := hI.ev x
  rw [hx] at e1
  generalize hq : A.eval x = q at e1
  have e2 := e1
  cases e1
  exact ⟨_, by simp [execOp, ho, hq, run_fieldAddr hT hf hi hs], e2.ptr_add⟩

theorem gives_fieldAddrF {t n off t' : Nat} {z : List Value} {by_ : Nat} {fl : List (Nat × Nat)} {i : TyI} {x : Operand} (ho : o.op = .fieldAddr t x n) (hT : TyOk P t ⟨z, by_, .struct fl⟩) (hf : fl[n]? = some (off, t')) (hi : TyOk P t' i) (hs : i.sz ≠ 0) {sz len r j : Nat} {f : Nat → Nat → MV}
    (hx : evS st.tm x = .fptr sz len f r j) : Gives P o st (.fptr sz len f r (j + off)) := by
  intro w0 O A w G hI
  have e1 := hI.ev x
  rw [hx] at e1
  generalize hq : A.eval x = q at e1
  have e2 := e1
  cases e1
  exact ⟨_, by simp [execOp, ho, hq, run_fieldAddr hT hf hi hs], e2.fptr_add⟩

/-- Cells of an aggregate. -/
theorem run_part {t : Nat} {i : TyI} (h : TyOk P t i) (cs : Array Value) (off : Nat) {g : Nat → Value} (hg : ∀ d, d < i.sz → cs[off + d]? = some (g d)) (hz : i.kd.agg = false → i.sz = 1) (w : World) :
    (part t cs off).run P w = .ok (bif i.kd.agg then .agg ((List.range i.sz).map g).toArray else g 0) w := by
  unfold part
  rw [Sem.run_bind, h.isAgg]
  cases ha : i.kd.agg with
  | false =>
    have := hg 0 (by rw [hz ha]; exact Nat.one_pos)
    rw [Nat.add_zero] at this
    simp [this]
  | true =>
    simp only [Result.andThen_ok, if_true, Sem.run_bind, run_sz h, Sem.run_pure, cond_true]
    congr 2
    apply Array.ext'
    simp only [Array.toList_extract]
    apply List.ext_getElem?
    intro d
    rw [List.getElem?_map]
    by_cases hd : d < i.sz
    · have := hg d hd
      rw [List.extract_eq_take_drop, List.getElem?_take_of_lt (by omega), List.getElem?_drop, List.getElem?_range hd]
      simpa using this
    · rw [List.extract_eq_take_drop, List.getElem?_eq_none (by simp; omega), List.getElem?_eq_none (by simp; omega)]
      rfl

theorem R.aggOf {w : World} {G : Gh} {k : List Nat} {n : Nat} {f : Nat → MV} {g : Nat → Value} (h1 : ∀ i, i < n → (g i).oneCell' = true) (hr : ∀ i, i < n → R w G k (f i) (g i)) : R w G k (.agg n f) (.agg ((List.range n).map g).toArray) :=
  .agg (by simp) g (fun i hi => by simp [hi]) h1 hr

theorem gives_field {t n off t' m : Nat} {z : List Value} {by_ : Nat} {fl : List (Nat × Nat)} {x : Operand} {f : Nat → MV} (hTo : TOk P T) (ho : o.op = .field t x n) (hT : TyOk P t ⟨z, by_, .struct fl⟩) (hf : fl[n]? = some (off, t')) (hx : evS st.tm x = .agg m f)
    (h : partM T t' m off f K) : ∃ m, K m ∧ Gives P o st m := by
  obtain ⟨fs, h1, h2, _⟩ := hT.kd
  have h3 : (fs.toList.map (fun f => (f.offset, f.type)))[n]? = some (off, t') := by rw [h2]; exact hf
  rw [List.getElem?_map] at h3
  cases hfn : fs.toList[n]? with
  | none => rw [hfn] at h3; cases h3
  | some fd =>
    rw [hfn] at h3
    simp only [Option.map_some, Option.some.injEq, Prod.mk.injEq] at h3
    obtain ⟨rfl, rfl⟩ := h3
    have hfn' : fs[n]? = some fd := by rw [← Array.getElem?_toList]; exact hfn
    unfold partM at h
    split at h
    · rename_i i hi
      have hTi := hTo _ _ hi
      split at h
      · rename_i hle
        have hle : fd.offset + i.sz ≤ m := by simpa using hle
        have run : ∀ {cs : Array Value} {g : Nat → Value} (_ : cs.size = m) (_ : ∀ i, i < m → cs[i]? = some (g i)) (_ : i.kd.agg = false → i.sz = 1) (w : World), (Instr.field t (.agg cs) n).run P w = .ok (bif i.kd.agg then .agg ((List.range i.sz).map (fun d => g (fd.offset + d))).toArray else g (fd.offset + 0)) w := by
          intro cs g hcs hg hz w
          simp [Instr.field, run_und h1, hfn', asAgg]
          exact run_part hTi cs fd.offset (g := fun d => g (fd.offset + d)) (fun d hd => hg _ (by omega)) hz w
        split at h
        · rename_i ha
          refine ⟨_, h, fun w0 O A w G hI => ?_⟩
          have e1 := hI.ev x
          rw [hx] at e1
          generalize hq : A.eval x = q at e1
          cases e1 with
          | agg hs g hg h1' hr =>
            refine ⟨_, by simp only [execOp, ho, hq, Sem.run_bind, run hs hg (fun e => by rw [ha] at e; cases e)]; rfl, ?_⟩
            rw [ha]
            exact R.aggOf (fun d hd => h1' _ (by omega)) (fun d hd => hr _ (by omega))
        · rename_i ha
          split at h
          · rename_i h1z
            have h1z : i.sz = 1 := by simpa using h1z
            refine ⟨_, h, fun w0 O A w G hI => ?_⟩
            have e1 := hI.ev x
            rw [hx] at e1
            generalize hq : A.eval x = q at e1
            cases e1 with
            | agg hs g hg h1' hr =>
              refine ⟨_, by simp only [execOp, ho, hq, Sem.run_bind, run hs hg (fun _ => h1z)]; rfl, ?_⟩
              rw [ha]
              exact hr _ (by omega)
          · cases h
      · cases h
    · cases h

theorem run_indexAddr {t e : Nat} {z : List Value} {by_ : Nat} {i : TyI} (hT : TyOk P t ⟨z, by_, .slice e⟩) (hi : TyOk P e i) (a : Addr) (len cap : Nat) (k : IntKind) {n : Int} (h0 : 0 ≤ n) (hn : n < (len : Int)) (w : World) :
    (Instr.indexAt t (.slice (some a) len cap) (.int k n)).run P w = .ok (.pointer (some (a.add (n.toNat * i.sz)))) w := by
  have h1 := hT.kd
  simp only [Kd.Ok] at h1
  simp [Instr.indexAt, run_und h1, asIntOf, h0, hn, run_sz hi]

theorem gives_indexAddr {t e : Nat} {z : List Value} {by_ : Nat} {i : TyI} {x y : Operand} (ho : o.op = .indexAddr t x y) (hT : TyOk P t ⟨z, by_, .slice e⟩) (hi : TyOk P e i) {k : List Nat} {ver off len : Nat} {kk : IntKind} {n : Int}
    (hx : evS st.tm x = .ref k ver i.sz off len) (hy : evS st.tm y = .v (.int kk n)) (h0 : 0 ≤ n) (hn : n < (len : Int)) : Gives P o st (.ptr k ver i.sz (off + n.toNat) 0) := by
  intro w0 O A w G hI
  have e1 := hI.ev x
  have e2 := hI.ev y
  rw [hx] at e1
  rw [hy] at e2
  generalize hq : A.eval x = q at e1
  generalize hr : A.eval y = r at e2
  cases e2
  cases e1 with
  | @ref _ p n' _ _ _ _ cap base hs hv hlen hmax hbs =>
    rcases hbs with hbs | ⟨a, rfl⟩
    · omega
    · refine ⟨.pointer (some (a.add (n.toNat * i.sz))), by simp [execOp, ho, hq, hr, run_indexAddr hT hi a len cap kk h0 hn], .ptr hs fun e β hβ => ?_⟩
      rcases (hv e).2 β hβ with hc | ⟨hb, -⟩
      · omega
      · injection hb with hb
        subst hb
        rw [Addr.add_mid]
        simp only [Nat.add_mul, Nat.add_assoc, Nat.add_zero]

theorem gives_indexAddrF {t e : Nat} {z : List Value} {by_ : Nat} {i : TyI} {x y : Operand} (ho : o.op = .indexAddr t x y) (hT : TyOk P t ⟨z, by_, .slice e⟩) (hi : TyOk P e i) {len : Nat} {f : Nat → Nat → MV} {kk : IntKind} {n : Int}
    (hx : evS st.tm x = .tr false i.sz len f) (hy : evS st.tm y = .v (.int kk n)) (h0 : 0 ≤ n) (hn : n < (len : Int)) : Gives P o st (.fptr i.sz len f n.toNat 0) := by
  intro w0 O A w G hI
  have e1 := hI.ev x
  have e2 := hI.ev y
  rw [hx] at e1
  rw [hy] at e2
  generalize hq : A.eval x = q at e1
  generalize hr : A.eval y = r at e2
  cases e2
  cases e1 with
  | tr0 => exact absurd hn (by omega)
  | @tr _ _ _ _ cap β o _ g hk hf hb hlen hmax hg h1 hr' =>
    refine ⟨.pointer (some ((⟨β, o, none⟩ : Addr).add (n.toNat * i.sz))), by simp [execOp, ho, hq, hr, run_indexAddr hT hi _ len cap kk h0 hn], ?_⟩
    rw [Addr.add_mid]
    exact .fptr (j := 0) g (hf rfl) (hb.le (Nat.mul_le_mul_right _ hlen)) hg h1 hr'

theorem gives_index {t : Nat} {z : List Value} {by_ : Nat} {x y : Operand} (ho : o.op = .index t x y) (hT : TyOk P t ⟨z, by_, .str⟩) {s : ByteArray} {kk : IntKind} {n : Int} {b : UInt8}
    (hx : evS st.tm x = .v (.string s)) (hy : evS st.tm y = .v (.int kk n)) (h0 : 0 ≤ n) (hb : s[n.toNat]? = some b) : Gives P o st (.v (.int .u8 b.toNat)) := by
  intro w0 O A w G hI
  have e1 := hI.ev x
  have e2 := hI.ev y
  rw [hx] at e1
  rw [hy] at e2
  generalize hq : A.eval x = q at e1
  generalize hr : A.eval y = r at e2
  cases e2
  cases e1
  have hu := hT.kd
  simp only [Kd.Ok] at hu
  exact ⟨_, by simp [execOp, ho, hq, hr, Instr.index, asIntOf, run_und hu, h0, hb], .v⟩

theorem run_slice {t e : Nat} {z : List Value} {by_ : Nat} {i : TyI} (hT : TyOk P t ⟨z, by_, .slice e⟩) (hi : TyOk P e i) (base : Option Addr) (len cap l h : Nat) {lo hi' : Option Value} (hlo : lo = some (.int .i64 l) ∨ (lo = none ∧ l = 0)) (hhi : hi' = some (.int .i64 h) ∨ (hi' = none ∧ h = len))
    (h1 : l ≤ h) (h2 : h ≤ len) (h3 : len ≤ cap) (w : World) :
    (Instr.sliceAt t (.slice base len cap) lo hi' none).run P w = .ok (.slice (if cap = l then base else base.map (·.add (l * i.sz))) (h - l) (cap - l)) w := by
  have hu := hT.kd
  simp only [Kd.Ok] at hu
  have hhc : h ≤ cap := Nat.le_trans h2 h3
  rcases hlo with rfl | ⟨rfl, rfl⟩ <;> rcases hhi with rfl | ⟨rfl, rfl⟩ <;>
    simp [Instr.sliceAt, run_und hu, Instr.slice, Instr.sliceBounds, Instr.sliceBound, asIntOf, run_sz hi, h1, hhc]

theorem bnd_ev {w0 : World} {O : Own} {a : Act} {w : World} {G : Gh} (hI : Inv w0 O st a w G) {lo : Option Operand} {l d : Nat} (h : bndP (evS st.tm) lo l d) : lo.map a.eval = some (.int .i64 l) ∨ (lo.map a.eval = none ∧ l = d) := by
  cases lo with
  | none => exact .inr ⟨rfl, h⟩
  | some x =>
    have e := hI.ev x
    rw [show evS st.tm x = .v (.int .i64 l) from h] at e
    generalize hq : a.eval x = q at e
    cases e
    exact .inl (by simp [hq])

theorem gives_slice {t e : Nat} {z : List Value} {by_ : Nat} {i : TyI} {x : Operand} {lo hi' : Option Operand} (ho : o.op = .slice t x lo hi' none) (hT : TyOk P t ⟨z, by_, .slice e⟩) (hi : TyOk P e i) {k : List Nat} {ver off len l h : Nat}
    (hx : evS st.tm x = .ref k ver i.sz off len) (hlo : bndP (evS st.tm) lo l 0) (hhi : bndP (evS st.tm) hi' h len) (h1 : l ≤ h) (h2 : h ≤ len) : Gives P o st (.ref k ver i.sz (off + l) (h - l)) := by
  intro w0 O A w G hI
  have e1 := hI.ev x
  rw [hx] at e1
  generalize hq : A.eval x = q at e1
  cases e1 with
  | @ref _ p n' _ _ _ _ cap base hs hv hlen hmax hbs =>
    refine ⟨.slice (if cap = l then base else base.map (·.add (l * i.sz))) (h - l) (cap - l), by simp [execOp, ho, hq, run_slice hT hi base len cap l h (bnd_ev hI hlo) (bnd_ev hI hhi) h1 h2 hlen], .ref hs (fun e => ⟨fun hz => by have := (hv e).1 hz; omega, fun β hβ => ?_⟩) (by omega) (by omega) ?_⟩
    · by_cases hc : cap = l
      · exact .inl (by omega)
      · rcases (hv e).2 β hβ with h0 | ⟨rfl, hb⟩
        · exact .inl (by omega)
        · refine .inr ⟨?_, hb.le (Nat.mul_le_mul_right _ (by omega))⟩
          rw [if_neg hc]
          simp only [Option.map_some, Addr.add_mid, Nat.add_mul, Nat.add_assoc]
    · by_cases hc : cap = l
      · exact .inl (by omega)
      · rw [if_neg hc]
        rcases hbs with h0 | ⟨a, rfl⟩
        · exact .inl (by omega)
        · exact .inr ⟨_, rfl⟩

theorem gives_sliceF {t e : Nat} {z : List Value} {by_ : Nat} {i : TyI} {x : Operand} {lo hi' : Option Operand} (ho : o.op = .slice t x lo hi' none) (hT : TyOk P t ⟨z, by_, .slice e⟩) (hi : TyOk P e i) {len l h : Nat} {f : Nat → Nat → MV}
    (hx : evS st.tm x = .tr false i.sz len f) (hlo : bndP (evS st.tm) lo l 0) (hhi : bndP (evS st.tm) hi' h len) (h1 : l ≤ h) (h2 : h ≤ len) : Gives P o st (.tr false i.sz (h - l) (fun a b => f (l + a) b)) := by
  intro w0 O A w G hI
  have e1 := hI.ev x
  rw [hx] at e1
  generalize hq : A.eval x = q at e1
  cases e1 with
  | @tr0 _ _ _ _ base =>
    obtain rfl : h = 0 := by omega
    obtain rfl : l = 0 := by omega
    exact ⟨.slice base 0 0, by simp [execOp, ho, hq, run_slice hT hi base 0 0 0 0 (bnd_ev hI hlo) (bnd_ev hI hhi) (Nat.le_refl _) (Nat.le_refl _) (Nat.le_refl _)], .tr0 (by simp)⟩
  | @tr _ _ _ _ cap β o _ g hk hf hb hlen hmax hg h1' hr =>
    refine ⟨.slice (if cap = l then some ⟨β, o, none⟩ else (some (⟨β, o, none⟩ : Addr)).map (·.add (l * i.sz))) (h - l) (cap - l), by simp [execOp, ho, hq, run_slice hT hi _ len cap l h (bnd_ev hI hlo) (bnd_ev hI hhi) h1 h2 hlen], ?_⟩
    by_cases hc : cap = l
    · subst hc
      obtain rfl : h = cap := by omega
      rw [Nat.sub_self]
      exact .tr0 (by simp)
    · rw [if_neg hc]
      simp only [Option.map_some, Addr.add_mid]
      have ea : ∀ r, o + l * i.sz + r * i.sz = o + (l + r) * i.sz := fun r => by rw [Nat.add_mul]; omega
      refine .tr (fun r j => g (l + r) j) (by simp) hf ?_ (by omega) (by omega) (fun r j hr' hj => ?_) (fun r j hr' hj => h1' (l + r) j (by omega) hj) (fun r j hr' hj => hr (l + r) j (by omega) hj)
      · obtain ⟨c, T, fz, a1, a2, a3⟩ := hb
        refine ⟨c, T, fz, a1, ?_, a3⟩
        have : l * i.sz + (cap - l) * i.sz = cap * i.sz := by rw [← Nat.add_mul]; congr 1; omega
        omega
      · rw [ea]; exact hg (l + r) j (by omega) hj

theorem gives_sliceN {t e : Nat} {z : List Value} {by_ : Nat} {i : TyI} {x : Operand} {lo hi' : Option Operand} (ho : o.op = .slice t x lo hi' none) (hT : TyOk P t ⟨z, by_, .slice e⟩) (hi : TyOk P e i) {l h : Nat}
    (hx : evS st.tm x = .v (.slice none 0 0)) (hlo : bndP (evS st.tm) lo l 0) (hhi : bndP (evS st.tm) hi' h 0) (h1 : l ≤ h) (h2 : h ≤ 0) : Gives P o st (.v (.slice none 0 0)) := by
  intro w0 O A w G hI
  have e1 := hI.ev x
  rw [hx] at e1
  generalize hq : A.eval x = q at e1
  cases e1
  obtain rfl : h = 0 := by omega
  obtain rfl : l = 0 := by omega
  exact ⟨.slice none 0 0, by simp [execOp, ho, hq, run_slice hT hi none 0 0 0 0 (bnd_ev hI hlo) (bnd_ev hI hhi) (Nat.le_refl _) (Nat.le_refl _) (Nat.le_refl _)], .v⟩

theorem run_sliceS {t : Nat} {z : List Value} {by_ : Nat} (hT : TyOk P t ⟨z, by_, .str⟩) (s : ByteArray) (l h : Nat) {lo hi' : Option Value} (hlo : lo = some (.int .i64 l) ∨ (lo = none ∧ l = 0)) (hhi : hi' = some (.int .i64 h) ∨ (hi' = none ∧ h = s.size))
    (h1 : l ≤ h) (h2 : h ≤ s.size) (w : World) :
    (Instr.sliceAt t (.string s) lo hi' none).run P w = .ok (.string (s.extract l h)) w := by
  have hu := hT.kd
  simp only [Kd.Ok] at hu
  rcases hlo with rfl | ⟨rfl, rfl⟩ <;> rcases hhi with rfl | ⟨rfl, rfl⟩ <;>
    simp [Instr.sliceAt, run_und hu, Instr.slice, Instr.sliceBounds, Instr.sliceBound, asIntOf, h1, h2]

theorem gives_sliceS {t : Nat} {z : List Value} {by_ : Nat} {x : Operand} {lo hi' : Option Operand} (ho : o.op = .slice t x lo hi' none) (hT : TyOk P t ⟨z, by_, .str⟩) {s : ByteArray} {l h : Nat}
    (hx : evS st.tm x = .v (.string s)) (hlo : bndP (evS st.tm) lo l 0) (hhi : bndP (evS st.tm) hi' h s.size) (h1 : l ≤ h) (h2 : h ≤ s.size) : Gives P o st (.v (.string (s.extract l h))) := by
  intro w0 O A w G hI
  have e1 := hI.ev x
  rw [hx] at e1
  generalize hq : A.eval x = q at e1
  cases e1
  exact ⟨_, by simp [execOp, ho, hq, run_sliceS hT s l h (bnd_ev hI hlo) (bnd_ev hI hhi) h1 h2], .v⟩

theorem gives_convert {s t : Nat} {zs zt : List Value} {bs bt : Nat} {ks kt kk : IntKind} {x : Operand} (ho : o.op = .convert s t x) (hS : TyOk P s ⟨zs, bs, .int ks⟩) (hT : TyOk P t ⟨zt, bt, .int kt⟩) {n : Int} (hx : evS st.tm x = .v (.int kk n)) : Gives P o st (.v (.int kt (kt.wrap n))) := by
  intro w0 O A w G hI
  have e1 := hI.ev x
  rw [hx] at e1
  generalize hq : A.eval x = q at e1
  cases e1
  have hu := hT.kd
  have hv := hS.kd
  simp only [Kd.Ok] at hu hv
  exact ⟨_, by simp [execOp, ho, hq, convert, run_und hu, run_und hv, Conv.intToInt], .v⟩

theorem lenO_gives {w : World} {G : Gh} {k : List Nat} {m : MV} {c : Value} {K : Nat → Prop} (h : lenO m K) (hc : R w G k m c) : ∃ n, K n ∧ ((∃ b cp, c = .slice b n cp) ∨ ∃ s : ByteArray, c = .string s ∧ s.size = n ∧ m = .v c) := by
  cases hc with
  | v =>
    cases c <;> first | exact ⟨_, h, .inl ⟨_, _, rfl⟩⟩ | exact ⟨_, h, .inr ⟨_, rfl, rfl, rfl⟩⟩ | cases h
  | tr0 => exact ⟨_, h, .inl ⟨_, _, rfl⟩⟩
  | tr => exact ⟨_, h, .inl ⟨_, _, rfl⟩⟩
  | ref => exact ⟨_, h, .inl ⟨_, _, rfl⟩⟩
  | _ => cases h

theorem run_len_slice {t e : Nat} (ht : P.underlying t = some (.slice e)) (ty : Nat) (b : Option Addr) (n c : Nat) (w : World) : (Builtin.len_ #[t] ty #[.slice b n c]).run P w = .ok (.int .i64 n) w := by
  simp [Builtin.len_, run_und ht, goInt]
theorem run_len_str {t : Nat} (ht : P.underlying t = some .string) (ty : Nat) (s : ByteArray) (w : World) : (Builtin.len_ #[t] ty #[.string s]).run P w = .ok (.int .i64 s.size) w := by
  simp [Builtin.len_, run_und ht, goInt]

end

end Go.Proofs.YtiimdlkeikcfiaaGreat.M
