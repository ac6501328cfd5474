/- Arenas: which are right; plain laws. -/
import Derived.Test.YtabbncoihmhocaaThingsSz
import Derived.Test.YtabbncoihmhocaaResPure
namespace Go.Proofs.Ytabbncoihmhocaa
open Go.RowKit

def kindAt (l : List Thing) (n : Int) : Int := (l.getD n.toNat (noThing 0)).kind
def boxBad (l : List Thing) (i : Nat) (o : Thing) : Bool := decide (0 < i) && (!decide (o.kind = 0) && (decide (0 ≤ o.box) && decide (kindAt l o.box = 0)))
def linkB (l : List Thing) (k : Int) : Bool := !(decide (0 ≤ k) && decide (kindAt l k = 0))
def slotOk (l : List Thing) (i : Nat) (o : Thing) : Bool := thingOk o && (!boxBad l i o && o.links.all (linkB l))
def arenaHead (l : List Thing) : Bool := decide (l.length = 10) && (decide ((l.headD (noThing 0)).kind = 1) && (decide ((l.headD (noThing 0)).box = -1) && decide ((l.headD (noThing 0)).til = 1000000)))
def arenaOk (l : List Thing) : Bool := arenaHead l && idxAll (slotOk l) 0 l
theorem arena_len {l : List Thing} (h : l.length ≠ 10) : arenaOk l = false := by unfold arenaOk arenaHead; simp [h]
theorem arena_head {l : List Thing} {x : Thing} (hx : l[0]? = some x) (h : x.kind ≠ 1 ∨ x.box ≠ -1 ∨ x.til ≠ 1000000) : arenaOk l = false := by
  unfold arenaOk arenaHead
  cases l with
  | nil => simp at hx
  | cons y l =>
    simp at hx
    subst hx
    rcases h with h | h | h <;> simp [h]
theorem arena_bad {l : List Thing} {k : Nat} {x : Thing} (hx : l[k]? = some x) (h : slotOk l k x = false) : arenaOk l = false := by
  unfold arenaOk
  rw [idxAll_bad hx h, Bool.and_false]
theorem arena_good {l : List Thing} {x : Thing} (hl : l.length = 10) (hx : l[0]? = some x) (h1 : x.kind = 1) (h2 : x.box = -1) (h3 : x.til = 1000000) {k : Nat} (h : AllTo (slotOk l) l k) (hk : l.length ≤ k) : arenaOk l = true := by
  unfold arenaOk
  rw [h.all hk, Bool.and_true]
  unfold arenaHead
  cases l with
  | nil => simp at hx
  | cons y l =>
    simp at hx
    subst hx
    simp at hl
    simp [hl, h1, h2, h3]
theorem kindAt_get {l : List Thing} {m : Nat} {y : Thing} (hy : l[m]? = some y) : kindAt l (m : Int) = y.kind := by
  unfold kindAt
  simp [List.getD_eq_getElem?_getD, hy]
theorem boxBad_yes {l : List Thing} {k m : Nat} {x y : Thing} (hk : 0 < k) (h0 : x.kind ≠ 0) (hb : x.box = (m : Int)) (hy : l[m]? = some y) (hz : y.kind = 0) : boxBad l k x = true := by
  unfold boxBad
  rw [hb, kindAt_get hy]
  simp [hk, h0, hz]
theorem boxBad_no {l : List Thing} {k : Nat} {x : Thing} (h : k = 0 ∨ x.kind = 0 ∨ x.box < 0 ∨ ∃ (m : Nat) (y : Thing), x.box = (m : Int) ∧ l[m]? = some y ∧ y.kind ≠ 0) : boxBad l k x = false := by
  unfold boxBad
  rcases h with h | h | h | ⟨m, y, h1, h2, h3⟩
  · simp [h]
  · simp [h]
  · rw [show decide (0 ≤ x.box) = false by simpa using h]; simp
  · rw [h1, kindAt_get h2]; simp [h3]
theorem linkB_no {l : List Thing} {m : Nat} {y : Thing} (hy : l[m]? = some y) (h : y.kind = 0) : linkB l (m : Int) = false := by
  unfold linkB; rw [kindAt_get hy]; simp [h]
theorem linkB_yes {l : List Thing} {m : Nat} {y : Thing} (hy : l[m]? = some y) (h : y.kind ≠ 0) : linkB l (m : Int) = true := by
  unfold linkB; rw [kindAt_get hy]; simp [h]
theorem linkB_neg (l : List Thing) {k : Int} (h : ¬ 0 ≤ k) : linkB l k = true := by
  unfold linkB; simp [h]
theorem thing_box {x : Thing} (h : thingOk x = true) (h0 : x.kind ≠ 0) : -1 ≤ x.box ∧ x.box ≤ 9 := by
  unfold thingOk at h
  rw [Bool.and_eq_true, Bool.and_eq_true, if_neg h0, Bool.and_eq_true] at h
  exact inB_true.1 h.2.2.1
theorem thing_link {x : Thing} (h : thingOk x = true) {j : Nat} {y : Int} (hy : x.links[j]? = some y) : -1 ≤ y ∧ y ≤ 9 := by
  by_cases h0 : x.kind = 0
  · unfold thingOk at h
    rw [Bool.and_eq_true, Bool.and_eq_true, if_pos h0, decide_eq_true_eq] at h
    rw [h.2.2] at hy
    simp [noThing] at hy
  · unfold thingOk at h
    rw [Bool.and_eq_true, Bool.and_eq_true, if_neg h0] at h
    simp only [Bool.and_eq_true] at h
    have h5 := h.2.2.2.2.2.2.1
    unfold listsOk at h5
    rw [Bool.and_eq_true] at h5
    exact inB_true.1 (List.all_eq_true.1 h5.1 y (List.mem_of_getElem? hy))
theorem slot_bad1 {l : List Thing} {k : Nat} {x : Thing} (h : thingOk x = false) : slotOk l k x = false := by unfold slotOk; rw [h]; rfl
theorem slot_bad2 {l : List Thing} {k : Nat} {x : Thing} (h : boxBad l k x = true) : slotOk l k x = false := by unfold slotOk; rw [h]; simp
theorem slot_bad3 {l : List Thing} {k : Nat} {x : Thing} (h : x.links.all (linkB l) = false) : slotOk l k x = false := by unfold slotOk; rw [h]; simp
theorem slot_good {l : List Thing} {k : Nat} {x : Thing} (h1 : thingOk x = true) (h2 : boxBad l k x = false) (h3 : x.links.all (linkB l) = true) : slotOk l k x = true := by unfold slotOk; rw [h1, h2, h3]; rfl
theorem SlIs.rd {w : World} {a : Option Addr} {n c : Nat} {xs : List Value} (h : SlIs w (.slice a n c) n xs) : Rd w a xs := by
  obtain ⟨a', c', e, _, r⟩ := h
  cases e
  exact r
theorem SlIs.shape {w : World} {v : Value} {n : Nat} {xs : List Value} (h : SlIs w v n xs) : ∃ a c, v = .slice a n c := by
  obtain ⟨a, c, e, _, _⟩ := h
  exact ⟨a, c, e⟩
theorem all_end {α : Type} {f : α → Bool} {l : List α} {k : Nat} (h : l.all f = (l.drop k).all f) (hk : l.length ≤ k) : l.all f = true := by
  rw [h, List.drop_eq_nil_of_le hk]; rfl
theorem ThingsRd.kind {w : World} {b o : Nat} {l : List Thing} (h : ThingsRd w (some ⟨b, o, none⟩) l) {m : Nat} {y : Thing} (hy : l[m]? = some y) : w.cell? ⟨b, o + m * 13 + 1, none⟩ = some (.int .i64 y.kind) := by
  obtain ⟨b', o', vl, vd, vq, e, _, _, hz⟩ := h m y hy
  cases e
  exact hz 1 _ rfl

end Go.Proofs.Ytabbncoihmhocaa
