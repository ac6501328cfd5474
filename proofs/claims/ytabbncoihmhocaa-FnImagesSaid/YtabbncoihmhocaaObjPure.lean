/- Things: the data, and which are right; plain laws. -/
import Derived.Test.YtabbncoihmhocaaSmall
namespace Go.Proofs.Ytabbncoihmhocaa
open Go.RowKit

structure Msg where
  f : Int
  n : Int
deriving DecidableEq
structure Thing where
  gen : Int
  kind : Int
  box : Int
  res : Int
  til : Int
  pages : Int
  wait : Int
  got : Int
  ran : Int
  mark : Bool
  links : List Int
  data : List Int
  queue : List Msg
deriving DecidableEq
instance : Inhabited Msg := ⟨⟨0, 0⟩⟩
def Msg.enc (x : Msg) : List Value := [.int .i64 x.f, .int .i64 x.n]
theorem Msg.enc_len (x : Msg) : x.enc.length = 2 := rfl
def icell (l : List Int) : List Value := l.map (Value.int .i64)
theorem icell_length (l : List Int) : (icell l).length = l.length := by simp [icell]
/-- A slice value that reads as those cells, s cells a row. -/
def SlIs (w : World) (v : Value) (n : Nat) (xs : List Value) : Prop := ∃ a c, v = .slice a n c ∧ n ≤ c ∧ Rd w a xs
theorem SlIs.below {w w' : World} {v : Value} {n : Nat} {xs : List Value} (h : SlIs w v n xs) (hb : Below w.heap.size w w') : SlIs w' v n xs := by
  obtain ⟨a, c, rfl, hc, hr⟩ := h
  exact ⟨a, c, rfl, hc, hr.below hb⟩
/-- The cells of a thing. -/
def Thing.cells (o : Thing) (vl vd vq : Value) : List Value :=
  [.int .i64 o.gen, .int .i64 o.kind, .int .i64 o.box, .int .i64 o.res, .int .i64 o.til, .int .i64 o.pages, .int .i64 o.wait, .int .i64 o.got, .int .i64 o.ran, .bool o.mark, vl, vd, vq]
structure ThIs (w : World) (o : Thing) (vl vd vq : Value) : Prop where
  l : SlIs w vl o.links.length (icell o.links)
  d : SlIs w vd o.data.length (icell o.data)
  q : SlIs w vq o.queue.length (o.queue.flatMap Msg.enc)
theorem ThIs.below {w w' : World} {o : Thing} {vl vd vq : Value} (h : ThIs w o vl vd vq) (hb : Below w.heap.size w w') : ThIs w' o vl vd vq := ⟨h.l.below hb, h.d.below hb, h.q.below hb⟩

def isHandleB (n : Int) : Bool := inB n 0 29999
def msgOk (m : Msg) : Bool := (decide (m.f = -1) || isHandleB m.f) && inB m.n 0 999
def dataWant (o : Thing) : Int := if o.kind = 2 then o.pages else 0
def queueWant (o : Thing) : Int := if o.kind = 3 then 2 else 0
def shapeOk (o : Thing) : Bool := decide (o.links.length = 2) && (decide ((o.data.length : Int) = dataWant o) && decide ((o.queue.length : Int) ≤ queueWant o))
def listsOk (o : Thing) : Bool := o.links.all (fun n => inB n (-1) 9) && (o.data.all (fun n => inB n 0 999) && (o.queue.all msgOk && shapeOk o))
def noThing (g : Int) : Thing := ⟨g, 0, 0, 0, 0, 0, 0, 0, 0, false, [], [], []⟩
def threadOk (o : Thing) : Bool := if o.kind = 4 then (decide (o.wait = 0) || isHandleB (o.wait - 1)) && (inB o.got (-1) 999 && inB o.ran 0 1000000) else decide (o.wait = 0) && (decide (o.got = 0) && decide (o.ran = 0))
def thingOk (o : Thing) : Bool :=
  inB o.gen 0 999 && (inB o.kind 0 4 && (if o.kind = 0 then decide (o = noThing o.gen)
    else inB o.box (-1) 9 && (inB o.res 0 4 && (inB o.til 0 1000000 && (inB o.pages 0 8 && (listsOk o && threadOk o))))))
def I64 (n : Int) : Prop := -9223372036854775808 ≤ n ∧ n ≤ 9223372036854775807
theorem Rd.rowMsg {w : World} {a : Option Addr} {l : List Msg} (h : Rd w a (l.flatMap Msg.enc)) {k : Nat} {x : Msg} (hx : l[k]? = some x) :
    ∃ b o, a = some ⟨b, o, none⟩ ∧ b < w.heap.size ∧ w.cell? ⟨b, o + k * 2, none⟩ = some (.int .i64 x.f) ∧ w.cell? ⟨b, o + k * 2 + 1, none⟩ = some (.int .i64 x.n) := by
  obtain ⟨b, o, ha, hlt, hc⟩ := h.row Msg.enc_len (by decide) hx
  exact ⟨b, o, ha, hlt, hc 0 _ (by decide) rfl, hc 1 _ (by decide) rfl⟩
theorem rdInt {w : World} {a : Option Addr} {l : List Int} (h : Rd w a (icell l)) {k : Nat} {x : Int} (hx : l[k]? = some x) :
    ∃ b o, a = some ⟨b, o, none⟩ ∧ b < w.heap.size ∧ w.cell? ⟨b, o + k, none⟩ = some (.int .i64 x) := by
  rcases h with h | ⟨b, o, ha, hlt, hc⟩
  · simp [icell] at h
    subst h
    simp at hx
  · exact ⟨b, o, ha, hlt, hc k _ (by unfold icell; rw [List.getElem?_map, hx]; rfl)⟩
end Go.Proofs.Ytabbncoihmhocaa
