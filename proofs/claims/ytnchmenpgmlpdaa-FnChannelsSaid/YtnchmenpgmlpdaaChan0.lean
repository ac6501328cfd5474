/- Chan: the laws' helpers toChan, toChanS, szChanS, eqChan, eqChanS; the data. -/
import Derived.Test.YtnchmenpgmlpdaaSmall
namespace Go.Proofs.Ytnchmenpgmlpdaa
open Go.RowKit

structure Chan where
  f : Int
  t : Int
def Chan.enc (x : Chan) : List Value := [.int .i64 x.f, .int .i64 x.t]
theorem Chan.enc_len (x : Chan) : x.enc.length = 2 := rfl
instance : Inhabited Chan := ⟨⟨0, 0⟩⟩

theorem Rd.rowChan {w : World} {a : Option Addr} {l : List Chan} (h : Rd w a (l.flatMap Chan.enc)) {k : Nat} {x : Chan} (hx : l[k]? = some x) :
    ∃ b o, a = some ⟨b, o, none⟩ ∧ b < w.heap.size ∧ w.cell? ⟨b, o + k * 2, none⟩ = some (.int .i64 x.f) ∧ w.cell? ⟨b, o + k * 2 + 1, none⟩ = some (.int .i64 x.t) := by
  obtain ⟨b, o, ha, hlt, hc⟩ := h.row Chan.enc_len (by decide) hx
  exact ⟨b, o, ha, hlt, hc 0 _ (by decide) rfl, hc 1 _ (by decide) rfl⟩

theorem Try.infoChan : (Try.prog.info? 52).map (fun i => (i.zero, i.size, i.bytes)) = some (some (.agg #[.int .i64 0, .int .i64 0]), 2, 16) := by kernel_rfl

end Go.Proofs.Ytnchmenpgmlpdaa
