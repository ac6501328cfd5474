/- Typed data: what the program's rows hold, told by types; states of typed data beside the states of trees. -/
import Derived.Test.YtiimdlkeikcfiaaGreatMT
namespace Go.Proofs.YtiimdlkeikcfiaaGreat.V
open Go.RowKit M

structure Msg where
  frm : Int
  n : Int
deriving DecidableEq
structure Obj where
  gen : Int
  kind : Int
  inn : Int
  res : Int
  til : Int
  pages : Int
  wait : Int
  got : Int
  ran : Int
  mark : Bool
  links : List Int
  data : List Int
  queue : List Msg
deriving DecidableEq
structure Amt where
  pages : Int
  rent : Int
  cpu : Int
deriving DecidableEq
structure Res where
  live : Bool
  parent : Int
  bal : Amt
deriving DecidableEq
structure Tap where
  res : Int
  toPart : Int
  toRes : Int
  which : Int
  kind : Int
  rate : Int
deriving DecidableEq
structure Tree where
  list : List Res
deriving DecidableEq
structure Gc where
  phase : Int
  at_ : Int
  round : Int
  grey : List Int
deriving DecidableEq
structure Heap where
  arena : List Obj
  gc : Gc
deriving DecidableEq
structure Part where
  label : List Int
  own : List Int
  tree : List Res
  heap : Heap
  taps : List Tap
  next : Int
  want : Int
  spent : Amt
  press : Int
  lost : Int
deriving DecidableEq
structure World where
  now : Int
  parts : List Part
deriving DecidableEq
structure Boot where
  label : List Int
  own : List Int
  amt : Amt
deriving DecidableEq
structure Call where
  kind : Int
  a : Int
  b : Int
  c : Int
  d : Int
  e : Int
deriving DecidableEq
structure Entry where
  kind : Int
  part : Int
  thread : Int
  call : Call
deriving DecidableEq
structure Reply where
  code : Int
  val : Int
deriving DecidableEq

inductive Ty where
  | i64
  | u8
  | bool
  | str
  | msg
  | obj
  | res
  | tap
  | tree
  | part
  | boot
  | entry
  | reply
  | call
deriving DecidableEq
@[reducible] def den : Ty → Type
  | .i64 => Int
  | .u8 => Int
  | .bool => Bool
  | .str => ByteArray
  | .msg => Msg
  | .obj => Obj
  | .res => Res
  | .tap => Tap
  | .tree => Tree
  | .part => Part
  | .boot => Boot
  | .entry => Entry
  | .reply => Reply
  | .call => Call
/-- A cell of a row: how it is read, how it is set. -/
inductive CellD (α : Type) where
  | int (k : IntKind) (get : α → Int) (put : Int → α → α)
  | bool (get : α → Bool) (put : Bool → α → α)
  | str (get : α → ByteArray) (put : ByteArray → α → α)
  | sl (t : Ty) (get : α → List (den t)) (put : List (den t) → α → α)
abbrev Amt.zero : Amt := ⟨0, 0, 0⟩
abbrev Call.zero : Call := ⟨0, 0, 0, 0, 0, 0⟩
@[reducible] def d0 : (t : Ty) → den t
  | .i64 => (0 : Int)
  | .u8 => (0 : Int)
  | .bool => false
  | .str => (⟨#[]⟩ : ByteArray)
  | .msg => (⟨0, 0⟩ : Msg)
  | .obj => (⟨0, 0, 0, 0, 0, 0, 0, 0, 0, false, [], [], []⟩ : Obj)
  | .res => (⟨false, 0, .zero⟩ : Res)
  | .tap => (⟨0, 0, 0, 0, 0, 0⟩ : Tap)
  | .tree => (⟨[]⟩ : Tree)
  | .part => (⟨[], [], [], ⟨[], ⟨0, 0, 0, []⟩⟩, [], 0, 0, .zero, 0, 0⟩ : Part)
  | .boot => (⟨[], [], .zero⟩ : Boot)
  | .entry => (⟨0, 0, 0, .zero⟩ : Entry)
  | .reply => (⟨0, 0⟩ : Reply)
  | .call => Call.zero
instance : Inhabited Msg := ⟨d0 .msg⟩
instance : Inhabited Obj := ⟨d0 .obj⟩
instance : Inhabited Res := ⟨d0 .res⟩
instance : Inhabited Tap := ⟨d0 .tap⟩
instance : Inhabited Tree := ⟨d0 .tree⟩
instance : Inhabited Part := ⟨d0 .part⟩
instance : Inhabited Boot := ⟨d0 .boot⟩
instance : Inhabited Entry := ⟨d0 .entry⟩
instance : Inhabited Reply := ⟨d0 .reply⟩
instance : Inhabited Call := ⟨d0 .call⟩
def Msg.w0 (v : Int) (x : Msg) : Msg := { x with frm := v }
def Msg.w1 (v : Int) (x : Msg) : Msg := { x with n := v }
def Obj.w0 (v : Int) (x : Obj) : Obj := { x with gen := v }
def Obj.w1 (v : Int) (x : Obj) : Obj := { x with kind := v }
def Obj.w2 (v : Int) (x : Obj) : Obj := { x with inn := v }
def Obj.w3 (v : Int) (x : Obj) : Obj := { x with res := v }
def Obj.w4 (v : Int) (x : Obj) : Obj := { x with til := v }
def Obj.w5 (v : Int) (x : Obj) : Obj := { x with pages := v }
def Obj.w6 (v : Int) (x : Obj) : Obj := { x with wait := v }
def Obj.w7 (v : Int) (x : Obj) : Obj := { x with got := v }
def Obj.w8 (v : Int) (x : Obj) : Obj := { x with ran := v }
def Obj.w9 (v : Bool) (x : Obj) : Obj := { x with mark := v }
def Obj.w10 (v : List (den .i64)) (x : Obj) : Obj := { x with links := v }
def Obj.w11 (v : List (den .i64)) (x : Obj) : Obj := { x with data := v }
def Obj.w12 (v : List (den .msg)) (x : Obj) : Obj := { x with queue := v }
def Res.w0 (v : Bool) (x : Res) : Res := { x with live := v }
def Res.w1 (v : Int) (x : Res) : Res := { x with parent := v }
def Res.w2 (v : Int) (x : Res) : Res := { x with bal := { x.bal with pages := v } }
def Res.w3 (v : Int) (x : Res) : Res := { x with bal := { x.bal with rent := v } }
def Res.w4 (v : Int) (x : Res) : Res := { x with bal := { x.bal with cpu := v } }
def Tap.w0 (v : Int) (x : Tap) : Tap := { x with res := v }
def Tap.w1 (v : Int) (x : Tap) : Tap := { x with toPart := v }
def Tap.w2 (v : Int) (x : Tap) : Tap := { x with toRes := v }
def Tap.w3 (v : Int) (x : Tap) : Tap := { x with which := v }
def Tap.w4 (v : Int) (x : Tap) : Tap := { x with kind := v }
def Tap.w5 (v : Int) (x : Tap) : Tap := { x with rate := v }
def Tree.w0 (v : List (den .res)) (_x : Tree) : Tree := ⟨v⟩
def Part.w0 (v : List (den .i64)) (x : Part) : Part := { x with label := v }
def Part.w1 (v : List (den .i64)) (x : Part) : Part := { x with own := v }
def Part.w2 (v : List (den .res)) (x : Part) : Part := { x with tree := v }
def Part.w3 (v : List (den .obj)) (x : Part) : Part := { x with heap := { x.heap with arena := v } }
def Part.w4 (v : Int) (x : Part) : Part := { x with heap := { x.heap with gc := { x.heap.gc with phase := v } } }
def Part.w5 (v : Int) (x : Part) : Part := { x with heap := { x.heap with gc := { x.heap.gc with at_ := v } } }
def Part.w6 (v : Int) (x : Part) : Part := { x with heap := { x.heap with gc := { x.heap.gc with round := v } } }
def Part.w7 (v : List (den .i64)) (x : Part) : Part := { x with heap := { x.heap with gc := { x.heap.gc with grey := v } } }
def Part.w8 (v : List (den .tap)) (x : Part) : Part := { x with taps := v }
def Part.w9 (v : Int) (x : Part) : Part := { x with next := v }
def Part.w10 (v : Int) (x : Part) : Part := { x with want := v }
def Part.w11 (v : Int) (x : Part) : Part := { x with spent := { x.spent with pages := v } }
def Part.w12 (v : Int) (x : Part) : Part := { x with spent := { x.spent with rent := v } }
def Part.w13 (v : Int) (x : Part) : Part := { x with spent := { x.spent with cpu := v } }
def Part.w14 (v : Int) (x : Part) : Part := { x with press := v }
def Part.w15 (v : Int) (x : Part) : Part := { x with lost := v }
def Boot.w0 (v : List (den .i64)) (x : Boot) : Boot := { x with label := v }
def Boot.w1 (v : List (den .i64)) (x : Boot) : Boot := { x with own := v }
def Boot.w2 (v : Int) (x : Boot) : Boot := { x with amt := { x.amt with pages := v } }
def Boot.w3 (v : Int) (x : Boot) : Boot := { x with amt := { x.amt with rent := v } }
def Boot.w4 (v : Int) (x : Boot) : Boot := { x with amt := { x.amt with cpu := v } }
def Entry.w0 (v : Int) (x : Entry) : Entry := { x with kind := v }
def Entry.w1 (v : Int) (x : Entry) : Entry := { x with part := v }
def Entry.w2 (v : Int) (x : Entry) : Entry := { x with thread := v }
def Entry.w3 (v : Int) (x : Entry) : Entry := { x with call := { x.call with kind := v } }
def Entry.w4 (v : Int) (x : Entry) : Entry := { x with call := { x.call with a := v } }
def Entry.w5 (v : Int) (x : Entry) : Entry := { x with call := { x.call with b := v } }
def Entry.w6 (v : Int) (x : Entry) : Entry := { x with call := { x.call with c := v } }
def Entry.w7 (v : Int) (x : Entry) : Entry := { x with call := { x.call with d := v } }
def Entry.w8 (v : Int) (x : Entry) : Entry := { x with call := { x.call with e := v } }
def Reply.w0 (v : Int) (x : Reply) : Reply := { x with code := v }
def Reply.w1 (v : Int) (x : Reply) : Reply := { x with val := v }
def Call.w0 (v : Int) (x : Call) : Call := { x with kind := v }
def Call.w1 (v : Int) (x : Call) : Call := { x with a := v }
def Call.w2 (v : Int) (x : Call) : Call := { x with b := v }
def Call.w3 (v : Int) (x : Call) : Call := { x with c := v }
def Call.w4 (v : Int) (x : Call) : Call := { x with d := v }
def Call.w5 (v : Int) (x : Call) : Call := { x with e := v }
def cells : (t : Ty) → List (CellD (den t))
  | .i64 => [.int .i64 (fun x => x) (fun v _ => v)]
  | .u8 => [.int .u8 (fun x => x) (fun v _ => v)]
  | .bool => [.bool (fun x => x) (fun v _ => v)]
  | .str => [.str (fun x => x) (fun v _ => v)]
  | .msg => [.int .i64 Msg.frm Msg.w0, .int .i64 Msg.n Msg.w1]
  | .obj => [.int .i64 Obj.gen Obj.w0, .int .i64 Obj.kind Obj.w1, .int .i64 Obj.inn Obj.w2, .int .i64 Obj.res Obj.w3,
      .int .i64 Obj.til Obj.w4, .int .i64 Obj.pages Obj.w5, .int .i64 Obj.wait Obj.w6, .int .i64 Obj.got Obj.w7,
      .int .i64 Obj.ran Obj.w8, .bool Obj.mark Obj.w9, .sl .i64 Obj.links Obj.w10, .sl .i64 Obj.data Obj.w11, .sl .msg Obj.queue Obj.w12]
  | .res => [.bool Res.live Res.w0, .int .i64 Res.parent Res.w1, .int .i64 (fun x => x.bal.pages) Res.w2,
      .int .i64 (fun x => x.bal.rent) Res.w3, .int .i64 (fun x => x.bal.cpu) Res.w4]
  | .tap => [.int .i64 Tap.res Tap.w0, .int .i64 Tap.toPart Tap.w1, .int .i64 Tap.toRes Tap.w2, .int .i64 Tap.which Tap.w3,
      .int .i64 Tap.kind Tap.w4, .int .i64 Tap.rate Tap.w5]
  | .tree => [.sl .res Tree.list Tree.w0]
  | .part => [.sl .i64 Part.label Part.w0, .sl .i64 Part.own Part.w1, .sl .res Part.tree Part.w2, .sl .obj (fun x => x.heap.arena) Part.w3,
      .int .i64 (fun x => x.heap.gc.phase) Part.w4, .int .i64 (fun x => x.heap.gc.at_) Part.w5,
      .int .i64 (fun x => x.heap.gc.round) Part.w6, .sl .i64 (fun x => x.heap.gc.grey) Part.w7,
      .sl .tap Part.taps Part.w8, .int .i64 Part.next Part.w9, .int .i64 Part.want Part.w10, .int .i64 (fun x => x.spent.pages) Part.w11,
      .int .i64 (fun x => x.spent.rent) Part.w12, .int .i64 (fun x => x.spent.cpu) Part.w13, .int .i64 Part.press Part.w14, .int .i64 Part.lost Part.w15]
  | .boot => [.sl .i64 Boot.label Boot.w0, .sl .i64 Boot.own Boot.w1, .int .i64 (fun x => x.amt.pages) Boot.w2,
      .int .i64 (fun x => x.amt.rent) Boot.w3, .int .i64 (fun x => x.amt.cpu) Boot.w4]
  | .entry => [.int .i64 Entry.kind Entry.w0, .int .i64 Entry.part Entry.w1, .int .i64 Entry.thread Entry.w2, .int .i64 (fun x => x.call.kind) Entry.w3,
      .int .i64 (fun x => x.call.a) Entry.w4, .int .i64 (fun x => x.call.b) Entry.w5, .int .i64 (fun x => x.call.c) Entry.w6,
      .int .i64 (fun x => x.call.d) Entry.w7, .int .i64 (fun x => x.call.e) Entry.w8]
  | .reply => [.int .i64 Reply.code Reply.w0, .int .i64 Reply.val Reply.w1]
  | .call => [.int .i64 Call.kind Call.w0, .int .i64 Call.a Call.w1, .int .i64 Call.b Call.w2, .int .i64 Call.c Call.w3, .int .i64 Call.d Call.w4, .int .i64 Call.e Call.w5]
def sz : Ty → Nat
  | .i64 => 1
  | .u8 => 1
  | .bool => 1
  | .str => 1
  | .msg => 2
  | .obj => 13
  | .res => 5
  | .tap => 6
  | .tree => 1
  | .part => 16
  | .boot => 5
  | .entry => 9
  | .reply => 2
  | .call => 6
theorem sz_eq (t : Ty) : (cells t).length = sz t := by cases t <;> rfl
theorem sz_pos (t : Ty) : 0 < sz t := by cases t <;> decide
def nth {α : Type} (l : List α) (n : Nat) : Option α :=
  match l with
  | [] => none
  | x :: r => match n with
    | 0 => some x
    | n + 1 => nth r n
theorem nth_eq {α : Type} : ∀ (l : List α) (n : Nat), nth l n = l[n]?
  | [], n => by simp [nth]
  | x :: r, 0 => by simp [nth]
  | x :: r, n + 1 => by simp [nth, nth_eq r n]
theorem nth_lt {α : Type} {l : List α} {n : Nat} {x : α} (h : nth l n = some x) : n < l.length := by
  rw [nth_eq] at h
  exact (List.getElem?_eq_some_iff.1 h).1
theorem nth_some {α : Type} {l : List α} {n : Nat} (h : n < l.length) : ∃ x, nth l n = some x := ⟨l[n], by rw [nth_eq]; simp [h]⟩
theorem cell_at {t : Ty} {j : Nat} (h : j < sz t) : ∃ c, nth (cells t) j = some c := nth_some (by rw [sz_eq]; exact h)
theorem cell_lt {t : Ty} {j : Nat} {c : CellD (den t)} (h : nth (cells t) j = some c) : j < sz t := by rw [← sz_eq]; exact nth_lt h

/-! ### What is set is read; nothing else turns -/
def CellD.same {α : Type} (c : CellD α) (y x : α) : Prop :=
  match c with
  | .int _ g _ => g y = g x
  | .bool g _ => g y = g x
  | .str g _ => g y = g x
  | .sl _ g _ => g y = g x
def keeps {α : Type} (c c' : CellD α) : Prop :=
  match c with
  | .int _ _ p => ∀ v x, c'.same (p v x) x
  | .bool _ p => ∀ v x, c'.same (p v x) x
  | .str _ p => ∀ v x, c'.same (p v x) x
  | .sl _ _ p => ∀ v x, c'.same (p v x) x
def tells {α : Type} (c : CellD α) : Prop :=
  match c with
  | .int _ g p => ∀ v x, g (p v x) = v
  | .bool g p => ∀ v x, g (p v x) = v
  | .str g p => ∀ v x, g (p v x) = v
  | .sl _ g p => ∀ v x, g (p v x) = v
theorem cells_pw (t : Ty) : (cells t).Pairwise (fun c c' => keeps c c' ∧ keeps c' c) := by
  cases t <;> simp [cells, keeps, CellD.same, Msg.w0, Msg.w1, Obj.w0, Obj.w1, Obj.w2, Obj.w3, Obj.w4, Obj.w5, Obj.w6, Obj.w7, Obj.w8, Obj.w9, Obj.w10, Obj.w11, Obj.w12, Res.w0, Res.w1, Res.w2, Res.w3, Res.w4, Tap.w0, Tap.w1, Tap.w2, Tap.w3, Tap.w4, Tap.w5, Tree.w0, Part.w0, Part.w1, Part.w2, Part.w3, Part.w4, Part.w5, Part.w6, Part.w7, Part.w8, Part.w9, Part.w10, Part.w11, Part.w12, Part.w13, Part.w14, Part.w15, Boot.w0, Boot.w1, Boot.w2, Boot.w3, Boot.w4, Entry.w0, Entry.w1, Entry.w2, Entry.w3, Entry.w4, Entry.w5, Entry.w6, Entry.w7, Entry.w8, Reply.w0, Reply.w1, Call.w0, Call.w1, Call.w2, Call.w3, Call.w4, Call.w5]
theorem cells_tell (t : Ty) : ∀ c ∈ cells t, tells c := by
  cases t <;> simp [cells, tells, Msg.w0, Msg.w1, Obj.w0, Obj.w1, Obj.w2, Obj.w3, Obj.w4, Obj.w5, Obj.w6, Obj.w7, Obj.w8, Obj.w9, Obj.w10, Obj.w11, Obj.w12, Res.w0, Res.w1, Res.w2, Res.w3, Res.w4, Tap.w0, Tap.w1, Tap.w2, Tap.w3, Tap.w4, Tap.w5, Tree.w0, Part.w0, Part.w1, Part.w2, Part.w3, Part.w4, Part.w5, Part.w6, Part.w7, Part.w8, Part.w9, Part.w10, Part.w11, Part.w12, Part.w13, Part.w14, Part.w15, Boot.w0, Boot.w1, Boot.w2, Boot.w3, Boot.w4, Entry.w0, Entry.w1, Entry.w2, Entry.w3, Entry.w4, Entry.w5, Entry.w6, Entry.w7, Entry.w8, Reply.w0, Reply.w1, Call.w0, Call.w1, Call.w2, Call.w3, Call.w4, Call.w5]
theorem keeps_at {t : Ty} {j j' : Nat} {c c' : CellD (den t)} (h : nth (cells t) j = some c) (h' : nth (cells t) j' = some c') (hne : j' ≠ j) : keeps c c' := by
  rw [nth_eq] at h h'
  obtain ⟨a1, a2⟩ := List.getElem?_eq_some_iff.1 h
  obtain ⟨b1, b2⟩ := List.getElem?_eq_some_iff.1 h'
  have hp := List.pairwise_iff_getElem.1 (cells_pw t)
  rcases Nat.lt_or_ge j j' with hl | hl
  · have := (hp j j' a1 b1 hl).1
    rwa [a2, b2] at this
  · have := (hp j' j b1 a1 (by omega)).2
    rwa [a2, b2] at this
theorem tells_at {t : Ty} {j : Nat} {c : CellD (den t)} (h : nth (cells t) j = some c) : tells c := by
  rw [nth_eq] at h
  exact cells_tell t c (List.mem_of_getElem? h)
/-- Rows that have no slices in them. -/
def flatT : Ty → Bool
  | .obj => false
  | .tree => false
  | .part => false
  | .boot => false
  | _ => true
theorem flatT_ok {t : Ty} (h : flatT t = true) {j : Nat} {t' : Ty} {g : den t → List (den t')} {p : List (den t') → den t → den t} : nth (cells t) j ≠ some (.sl t' g p) := by
  rw [nth_eq]
  intro e
  have := List.mem_of_getElem? e
  cases t <;> simp [cells, flatT] at this h

/-! ### Values -/
inductive OV where
  | any
  | nil
  | ref (k : List Nat) (t : Ty) (w : Option (Nat × Nat))
inductive CV where
  | any
  | sc (c : Value)
  | ro (t : Ty) (l : List (den t))
  | own (t : Ty) (inn : Bool) (l : List (den t)) (ov : List (List Nat × OV))
  | ref (k : List Nat) (t : Ty) (w : Option (Nat × Nat))
  | ptr (k : List Nat) (i j : Nat)
  | rptr (t : Ty) (l : List (den t)) (i j : Nat)
inductive AV where
  | one (c : CV)
  | agg (l : List CV)
inductive VV where
  | av (a : AV)
  | tup (l : List AV)
inductive VB where
  | rows (t : Ty) (inn : Bool) (l : List (den t)) (ov : List (List Nat × OV))
  | box (c : List CV)
def look {α : Type} (l : List (Nat × α)) (d : α) (n : Nat) : α :=
  match l with
  | [] => d
  | (m, x) :: r => match Nat.beq n m with
    | true => x
    | false => look r d n
structure VSt where
  tm : List (Nat × VV)
  bl : List (Nat × Option VB)
  nt : Nat
abbrev VSt.T (s : VSt) (t : Nat) : VV := look s.tm (.av (.one .any)) t
abbrev VSt.B (s : VSt) (n : Nat) : Option VB := look s.bl none n
theorem look_cons {α : Type} {l : List (Nat × α)} {d x : α} {m n : Nat} : look ((m, x) :: l) d n = if n = m then x else look l d n := by
  show (match Nat.beq n m with | true => x | false => look l d n) = _
  by_cases e : n = m
  · subst e; rw [beq_yes]; simp
  · rw [beq_no e, if_neg e]
def ovF (l : List (List Nat × OV)) (p : List Nat) : Option OV :=
  match l with
  | [] => none
  | (q, v) :: r => if p = q then some v else ovF r p

/-! ### What trees they are -/
inductive Enc (RV : OV → MV → Prop) : (List Nat → Option OV) → Bool → (t : Ty) → den t → CellD (den t) → MV → Prop where
  | ov {f : List Nat → Option OV} {o : Bool} {t : Ty} {x : den t} {c : CellD (den t)} {m : MV} {v : OV} (h : f [] = some v) (hr : RV v m) : Enc RV f o t x c m
  | int {f : List Nat → Option OV} {o : Bool} {t : Ty} {x : den t} {k : IntKind} {g : den t → Int} {p : Int → den t → den t} (h : f [] = none) : Enc RV f o t x (.int k g p) (.v (.int k (g x)))
  | bool {f : List Nat → Option OV} {o : Bool} {t : Ty} {x : den t} {g : den t → Bool} {p : Bool → den t → den t} (h : f [] = none) : Enc RV f o t x (.bool g p) (.v (.bool (g x)))
  | str {f : List Nat → Option OV} {o : Bool} {t : Ty} {x : den t} {g : den t → ByteArray} {p : ByteArray → den t → den t} (h : f [] = none) : Enc RV f o t x (.str g p) (.v (.string (g x)))
  | nil {f : List Nat → Option OV} {o : Bool} {t t' : Ty} {x : den t} {g : den t → List (den t')} {p : List (den t') → den t → den t} (h : f [] = none) (hl : g x = []) : Enc RV f o t x (.sl t' g p) (.v (.slice none 0 0))
  | sl {f : List Nat → Option OV} {o : Bool} {t t' : Ty} {x : den t} {g : den t → List (den t')} {p : List (den t') → den t → den t} {len : Nat} {r : Nat → Nat → MV} (h : f [] = none) (hl : len = (g x).length)
      (hs : ∀ i j c, i < (g x).length → nth (cells t') j = some c → Enc RV (fun p => f (i :: j :: p)) o t' ((g x).getD i (d0 t')) c (r i j)) : Enc RV f o t x (.sl t' g p) (.tr o (sz t') len r)
def EncRows (RV : OV → MV → Prop) (f : List Nat → Option OV) (o : Bool) (t : Ty) (l : List (den t)) (r : Nat → Nat → MV) : Prop :=
  ∀ i j c, i < l.length → nth (cells t) j = some c → Enc RV (fun p => f (i :: j :: p)) o t (l.getD i (d0 t)) c (r i j)
def noO : List Nat → Option OV := fun _ => none
def RowsR (t : Ty) (l : List (den t)) (r : Nat → Nat → MV) : Prop := EncRows (fun _ _ => False) noO false t l r

/-! ### Places -/
inductive NodeT : (List Nat → Option OV) → Bool → (t : Ty) → List (den t) → List Nat → (t' : Ty) → Bool → List (den t') → (List (den t') → List (den t)) → Prop where
  | nil {f : List Nat → Option OV} {o : Bool} {t : Ty} {l : List (den t)} : NodeT f o t l [] t o l (fun z => z)
  | cons {f : List Nat → Option OV} {t t' t'' : Ty} {l : List (den t)} {l'' : List (den t'')} {o : Bool} {i j : Nat} {p : List Nat} {g : den t → List (den t')} {pu : List (den t') → den t → den t} {bk : List (den t'') → List (den t')}
      (hi : i < l.length) (hc : nth (cells t) j = some (.sl t' g pu)) (hf : f [i, j] = none)
      (h : NodeT (fun p => f (i :: j :: p)) true t' (g (l.getD i (d0 t))) p t'' o l'' bk) : NodeT f true t l (i :: j :: p) t'' o l'' (fun z => l.set i (pu (bk z) (l.getD i (d0 t))))
def BNode (b : VB) (p : List Nat) (t : Ty) (o : Bool) (l : List (den t)) : Prop :=
  match b, p with
  | .rows t0 o0 l0 ov, p => ∃ bk, NodeT (ovF ov) o0 t0 l0 p t o l bk
  | .box cs, 0 :: j :: p => match nth cs j with
    | some (.own t0 o0 l0 ov) => ∃ bk, NodeT (ovF ov) o0 t0 l0 p t o l bk
    | _ => False
  | _, _ => False
def NodeIs (B : Nat → Option VB) (k : List Nat) (t : Ty) (o : Bool) (l : List (den t)) : Prop := ∃ n p b, k = n :: p ∧ B n = some b ∧ BNode b p t o l
/-- A window of a row: from where, how long. -/
def winO (w : Option (Nat × Nat)) (n : Nat) : Nat × Nat :=
  match w with
  | none => (0, n)
  | some x => x
def RefOk (B : Nat → Option VB) (E : St) (k : List Nat) (t : Ty) (w : Option (Nat × Nat)) (m : MV) : Prop :=
  ∃ n p o l, k = n :: p ∧ NodeIs B k t o l ∧ (winO w l.length).1 + (winO w l.length).2 ≤ l.length ∧ ((m = .ref k (E.vr n) (sz t) (winO w l.length).1 (winO w l.length).2 ∧ ∃ b, nodeP E.bl k (fun x => x = b) ∧ b.sz = sz t ∧ b.len = l.length) ∨ (p ≠ [] ∧ l = [] ∧ m = .v (.slice none 0 0)))
def PtrOk (B : Nat → Option VB) (E : St) (k : List Nat) (i j : Nat) (m : MV) : Prop :=
  ∃ n p s, k = n :: p ∧ m = .ptr k (E.vr n) s i j ∧ ((∃ cs, p = [] ∧ B n = some (.box cs) ∧ s = cs.length ∧ i = 0) ∨ ∃ t o l, NodeIs B k t o l ∧ s = sz t ∧ i < l.length)
def RelO (B : Nat → Option VB) (E : St) : OV → MV → Prop
  | .any, _ => True
  | .nil, m => m = .v (.slice none 0 0)
  | .ref k t w, m => RefOk B E k t w m
def RelC (B : Nat → Option VB) (E : St) : CV → MV → Prop
  | .any, _ => True
  | .sc c, m => m = .v c
  | .ro t l, m => (∃ len r, len = l.length ∧ m = .tr false (sz t) len r ∧ RowsR t l r) ∨ (l = [] ∧ m = .v (.slice none 0 0))
  | .own .., _ => False
  | .ref k t w, m => RefOk B E k t w m
  | .ptr k i j, m => PtrOk B E k i j m
  | .rptr t l i j, m => i < l.length ∧ ∃ len r, len = l.length ∧ m = .fptr (sz t) len r i j ∧ RowsR t l r
/-- What is open lies in the rows. -/
def OvOk (o : Bool) (t : Ty) (l : List (den t)) (ov : List (List Nat × OV)) : Prop :=
  ∀ x ∈ ov, ∃ q i j t1 o1 l1 bk, x.1 = q ++ [i, j] ∧ NodeT (ovF ov) o t l q t1 o1 l1 bk ∧ i < l1.length ∧ ∃ t3 g pu, nth (cells t1) j = some (.sl t3 g pu)
theorem OvOk.nil {o : Bool} {t : Ty} {l : List (den t)} : OvOk o t l [] := fun x hx => by cases hx
/-- .. in a box. -/
def RelX (B : Nat → Option VB) (E : St) (c : CV) (m : MV) : Prop :=
  match c with
  | .own t o l ov => (∃ len r, len = l.length ∧ m = .tr true (sz t) len r ∧ EncRows (RelO B E) (ovF ov) o t l r ∧ OvOk o t l ov) ∨ (l = [] ∧ m = .v (.slice none 0 0))
  | c => RelC B E c m
def RelA (B : Nat → Option VB) (E : St) : AV → MV → Prop
  | .one c, m => RelC B E c m
  | .agg l, m => ∃ f, m = .agg l.length f ∧ ∀ i c, nth l i = some c → RelC B E c (f i)
def RelS (B : Nat → Option VB) (E : St) : VV → MV → Prop
  | .av a, m => RelA B E a m
  | .tup l, m => ∃ f, m = .tup l.length f ∧ ∀ i a, nth l i = some a → RelA B E a (f i)
def RelB (B : Nat → Option VB) (E : St) : VB → Blk → Prop
  | .rows t o l ov, b => b.sz = sz t ∧ b.len = l.length ∧ EncRows (RelO B E) (ovF ov) o t l b.f ∧ OvOk o t l ov
  | .box cs, b => b.sz = cs.length ∧ b.len = 1 ∧ ∀ j c, nth cs j = some c → RelX B E c (b.f 0 j)
/-- A state of typed data stands beside a state of trees. -/
structure Sim (s : VSt) (st : St) : Prop where
  nt : st.nt = s.nt
  tm : ∀ t, RelS s.B st (s.T t) (st.tm t)
  bl : ∀ n b, s.B n = some b → ∃ b', st.bl n = some b' ∧ RelB s.B st b b'

end Go.Proofs.YtiimdlkeikcfiaaGreat.V
