import Derived.Test.YtpiaahkfnefplaaSmall
import Derived.Test.YtpiaahkfnefplaaCnt
namespace Go.Proofs.Ytpiaahkfnefplaa
open Go.RowKit


/-- The cells of element k of what was marked. -/
theorem Rd.markedMsg {w : World} {a : Option Addr} {q0 q : Int} {n k : Nat} (h : Rd w a (cnt q0 (n * 2))) (hk : k < n) (hq : q = q0 + ((k * 2 : Nat) : Int)) :
    ∃ b o, a = some ⟨b, o, none⟩ ∧ b < w.heap.size ∧ w.cell? ⟨b, o + k * 2, none⟩ = some (.int .i64 (q)) ∧ w.cell? ⟨b, o + k * 2 + 1, none⟩ = some (.int .i64 (q + 1)) := by
  rcases h with h | ⟨b, o, ha, hlt, hc⟩
  · have hl := cnt_length q0 (n * 2)
    rw [h, List.length_nil] at hl
    omega
  · subst hq
    refine ⟨b, o, ha, hlt, ?_, ?_⟩
    · refine (hc (k * 2) _ (cnt_get q0 (n * 2) _ (by omega))).trans ?_
      first | rfl | (congr 2; omega)
    · refine (hc (k * 2 + 1) _ (cnt_get q0 (n * 2) _ (by omega))).trans ?_
      first | rfl | (congr 2; omega)

end Go.Proofs.Ytpiaahkfnefplaa
