/- append onto an own slice: where the new one lies. -/
import Derived.Maps.AppendAt
import Derived.Test.YtabbncoihmhocaaApp
namespace Go.Proofs.Ytabbncoihmhocaa
open Go.RowKit


theorem wpList_append_rdat {P : Program} (w : World) {ops : Array Oper} {rest : List Oper} {o : Oper} {a : Act} {Q : Exit → Act → World → Prop} (hgd : o.guard = none) (s x : Operand) (t : TypeId)
    (ho : o.op = .call { callee := .builtin .append, args := #[s, x], argTypes := #[t, t] })
    (base : Nat) (e : TypeId) (i : TypeInfo) (z : Value) (size bytes : Nat) (ht : P.underlying t = some (.slice e)) (hi : P.info? e = some i) (hz : i.zero = some z)
    (hsize : i.size = size) (hby : i.bytes = bytes) (hzs : z.cells.size = size) (hsz : 0 < size)
    (v : Value) (n : Nat) (xs : List Value) (hs : a.eval s = v) (hown : w.ownsRow base e size v n xs)
    (ao : Option Addr) (m c : Nat) (news : List Value) (hx : a.eval x = .slice ao m c) (hl : news.length = m * size) (hr : Rd w ao news) (h1 : ∀ u ∈ news, u.oneCell' = true)
    (h63 : n + m ≤ maxLen) (hbytes : (n + m) * bytes ≤ 140737488355328) (hbase : base ≤ w.heap.size)
    (h : ∀ v' w', w'.ownsRow base e size v' (n + m) (xs ++ news) → w.grownBy w' v.ownBlock → (v'.ownBlock = v.ownBlock ∨ v'.ownBlock = some w.heap.size) → wpList P ops Q rest (a.put o.dst v') w') : wpList P ops Q (o :: rest) a w := by
  cases ao with
  | some ad =>
    refine wpList_append_own_at w hgd s x t ho base e i z size bytes ht hi hz hsize hby hzs hsz v n xs hs hown ad m c news hx hl ?_ h1 h63 hbytes hbase (fun v' w' h2 h3 _ h4 => h v' w' h2 h3 h4)
    rcases hr with hr | ⟨b, off, ha, _, hc⟩
    · subst hr; simp
    · cases ha
      intro j u hu
      rw [add_off]
      exact hc j u hu
  | none =>
    have hnil : news = [] := by
      rcases hr with hr | ⟨b, off, ha, _⟩
      · exact hr
      · cases ha
    subst hnil
    have hm : m = 0 := by
      cases m with
      | zero => rfl
      | succ m => rw [Nat.add_mul, List.length_nil] at hl; omega
    subst hm
    refine wpList_plain hgd fun K hK' => ?_
    have hrun := run_append_none_any (P := P) w base t o.type e i size ht hi v n c xs hown
    unfold Oper.wp
    simp [execOp, ho, resolve, invoke, builtin, hs, hx, hrun, Result.andThen]
    exact hK' _ _ (by simpa using h v w (by simpa using hown) (World.grownBy.refl _ _) (Or.inl rfl))

/-- The slice at q lies in no block of the value v. -/
def AP (q : Option Addr) (v : Value) : Prop := ∀ b o s, q = some ⟨b, o, s⟩ → v.ownBlock ≠ some b
theorem AP.next {q : Option Addr} {v v' : Value} {n : Nat} (h : AP q v) (hv : v'.ownBlock = v.ownBlock ∨ v'.ownBlock = some n) (hq : ∀ b o s, q = some ⟨b, o, s⟩ → b < n) : AP q v' := by
  intro b o s e
  rcases hv with hv | hv
  · rw [hv]; exact h b o s e
  · rw [hv]; intro z; cases z; exact absurd (hq _ o s e) (Nat.lt_irrefl _)
theorem Rd.grownA {w w' : World} {a : Option Addr} {xs : List Value} {v : Value} (h : Rd w a xs) (hg : w.grownBy w' v.ownBlock) (ha : AP a v) : Rd w' a xs := by
  rcases h with h | ⟨b, o, rfl, hlt, hc⟩
  · exact .inl h
  · refine .inr ⟨b, o, rfl, Nat.lt_of_lt_of_le hlt hg.size, fun i u hu => ?_⟩
    have hk := hg.block b hlt (fun z => ha b o none rfl z.symm)
    have h0 := hc i u hu
    rw [← h0]
    unfold World.cell?
    dsimp only
    rw [hk]

end Go.Proofs.Ytabbncoihmhocaa
