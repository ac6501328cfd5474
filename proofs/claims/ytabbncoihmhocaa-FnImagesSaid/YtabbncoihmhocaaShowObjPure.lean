/- What a thing shows, part by part. -/
import Derived.Test.YtabbncoihmhocaaThingShow
import Derived.Test.YtabbncoihmhocaaShowPure
import Derived.Laws.World
namespace Go.Proofs.Ytabbncoihmhocaa
open Go.RowKit

theorem vars1_any (g cap : Nat) (x : Int) (w : World) (h : w.cell? ⟨g, 0, none⟩ = some (.int .i64 x)) :
    Calls Try.prog 26 #[.slice (some ⟨g, 0, none⟩) 1 cap] w fun e w' => e = .returned (.string ⟨(varS x).toArray⟩) ∧ Below w.heap.size w w' := by
  have h1 := vars_any (some ⟨g, 0, none⟩) 1 cap [x] rfl (by decide) w (.inr ⟨g, 0, rfl, World.block_lt_of_cell? w _ h, fun i u hu => by
    match i with
    | 0 => simp at hu; subst hu; exact h
    | i + 1 => simp at hu⟩)
  rw [varsL_one] at h1
  exact h1
theorem varsL_map_next {l : List Int} {k : Nat} {x : Int} (hx : l[k]? = some x) (A acc : List UInt8) (h : A ++ varsL (l.take k) = acc) : A ++ varsL (l.take (k + 1)) = acc ++ varS x := by
  rw [varsL_next hx, ← h, List.append_assoc]
theorem linkNums_at {o : Thing} {k : Nat} {x : Int} (hx : o.links[k]? = some x) : (linkNums o)[k]? = some (x + 1) := by
  unfold linkNums; rw [List.getElem?_map, hx]; rfl
def msgsShow (q : List Msg) : List UInt8 := varsL (q.flatMap msgNums)
theorem msgsShow_next {q : List Msg} {k : Nat} {x : Msg} (hx : q[k]? = some x) (A acc : List UInt8) (h : A ++ msgsShow (q.take k) = acc) : A ++ msgsShow (q.take (k + 1)) = acc ++ varsL (msgNums x) := by
  obtain ⟨hk, rfl⟩ := List.getElem?_eq_some_iff.1 hx
  unfold msgsShow at *
  rw [List.take_succ_eq_append_getElem hk, List.flatMap_append, varsL_append, ← h, List.append_assoc]
  simp
theorem thing_show_eq (o : Thing) : thingShow o = ((varsL (thingNums o) ++ varsL (linkNums o)) ++ (varS (o.data.length : Int) ++ (varsL o.data ++ varS (o.queue.length : Int)))) ++ msgsShow o.queue := by
  unfold thingShow msgsShow queueNums
  simp only [List.append_assoc]
theorem thingNums_eq (o : Thing) : varsL (thingNums o) = varS o.gen ++ varS o.kind ++ varS (o.box + 1) ++ varS o.res ++ varS o.til ++ varS o.pages ++ varS o.wait ++ varS (o.got + 1) ++ varS o.ran ++ varS (flagI o.mark) ++ varS (o.links.length : Int) := by
  simp [thingNums, varsL, List.append_assoc]
theorem len_take {A acc : List UInt8} {l : List Int} {k n : Nat} (h : A ++ varsL (l.take k) = acc) (hl : l.length ≤ n) : acc.length ≤ A.length + 8 * n := by
  have := varsL_len (l.take k)
  rw [List.length_take] at this
  rw [← h, List.length_append]
  omega
theorem len_take2 {A acc : List UInt8} {q : List Msg} {k n : Nat} (h : A ++ msgsShow (q.take k) = acc) (hl : q.length ≤ n) : acc.length ≤ A.length + 16 * n := by
  have h1 := varsL_len ((q.take k).flatMap msgNums)
  have h2 : ((q.take k).flatMap msgNums).length = (q.take k).length * 2 := by
    induction q.take k with
    | nil => rfl
    | cons m q ih => rw [List.flatMap_cons, List.length_append, ih, List.length_cons]; simp [msgNums]; omega
  rw [List.length_take] at h2
  unfold msgsShow at h
  rw [← h, List.length_append]
  omega

end Go.Proofs.Ytabbncoihmhocaa
