/- QuotaOk of both sides. -/
import Derived.Test.YtclananddmjnaaaNode
namespace Go.Proofs.Ytclananddmjnaaa
open Go.RowKit

theorem quota_nodes_bad {l : List Node} (h : allFrom nodeOk 0 l = false) : quotaOk l = false := by unfold quotaOk nodesOk; rw [h]; simp
theorem quota_sums_bad {l : List Node} (h : sumsOk l = false) : quotaOk l = false := by unfold quotaOk; rw [h]; simp
theorem quota_head_bad {l : List Node} (h : quotaHead l = false) : quotaOk l = false := by unfold quotaOk nodesOk; rw [h]; simp
theorem quota_ok {l : List Node} (h1 : quotaHead l = true) (h2 : allFrom nodeOk 0 l = true) (h3 : sumsOk l = true) : quotaOk l = true := by unfold quotaOk nodesOk; rw [h1, h2, h3]; rfl
theorem nodeOk_split (k : Nat) (x : Node) (h0 : k = 0 ∨ inB x.p 0 ((k : Int) - 1) = true) (h1 : inB x.l 0 1000000 = true) (h2 : inB x.u 0 x.l = true) : nodeOk k x = true := by
  unfold nodeOk; rw [h1, h2]; rcases h0 with h0 | h0 <;> simp [h0]
theorem nodeOk_bad1 {k : Nat} {x : Node} (h0 : 0 < k) (h : inB x.p 0 ((k : Int) - 1) = false) : nodeOk k x = false := by
  unfold nodeOk; rw [h]; simp; omega
theorem nodeOk_bad2 {k : Nat} {x : Node} (h : inB x.l 0 1000000 = false) : nodeOk k x = false := by unfold nodeOk; rw [h]; simp
theorem nodeOk_bad3 {k : Nat} {x : Node} (h : inB x.u 0 x.l = false) : nodeOk k x = false := by unfold nodeOk; rw [h]; simp

theorem l20Kids_k (a : Option Addr) (n cap : Nat) (l : List Node) (k : Nat) (hn : n = l.length) (hno : nodesOk l = true) (hk : k < n) (w : World) (h : Rd w a (l.flatMap Node.enc)) :
    Calls Try.prog 95 #[.slice a n cap, .int .i64 k] w fun e w' => e = .returned (.int .i64 (usedBelow l k)) ∧ w = w' := by
  rw [← kids_eq hno k]
  exact l20Kids_any a n cap l k hn (nodesOk_small hno) hk w h
end Go.Proofs.Ytclananddmjnaaa
