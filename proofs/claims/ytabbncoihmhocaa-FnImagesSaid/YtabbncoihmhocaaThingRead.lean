/- A thing read from its text: what both sides read; plain laws. -/
import Derived.Test.YtabbncoihmhocaaThingShow
namespace Go.Proofs.Ytabbncoihmhocaa
open Go.RowKit

/-- m numbers from a on; where it ends. -/
def seqAt (l : List UInt8) (a m : Nat) : Option (List Nat × Nat) := (seqGo (l.drop a) m).map fun q => (q.1, a + q.2)
def listGo (l : List UInt8) (a most each : Nat) : Option (List Nat × Nat) := (seqAt l a 1).bind fun q => if most < q.1.getD 0 0 then none else seqAt l q.2 (q.1.getD 0 0 * each)
def pairs : List Nat → List Msg
  | x :: y :: l => ⟨(x : Int) - 1, (y : Int)⟩ :: pairs l
  | _ => []
def thingOf (h lk dt qu : List Nat) : Thing :=
  ⟨(h.getD 0 0 : Int), (h.getD 1 0 : Int), (h.getD 2 0 : Int) - 1, (h.getD 3 0 : Int), (h.getD 4 0 : Int), (h.getD 5 0 : Int), (h.getD 6 0 : Int), (h.getD 7 0 : Int) - 1, (h.getD 8 0 : Int), decide (h.getD 9 0 = 1), (ints lk).map (· - 1), ints dt, pairs qu⟩
def read4 (l : List UInt8) : Option (List Nat × List Nat × List Nat × List Nat × Nat) :=
  (seqAt l 0 10).bind fun h => (listGo l h.2 2 1).bind fun lk => (listGo l lk.2 8 1).bind fun dt => (listGo l dt.2 2 2).map fun qu => (h.1, lk.1, dt.1, qu.1, qu.2)
/-- What the reference's reader makes of a text: a thing and how many bytes it took. -/
def readThing (l : List UInt8) : Option (Thing × Nat) :=
  (read4 l).bind fun q => if showThing (thingOf q.1 q.2.1 q.2.2.1 q.2.2.2.1) = l.take q.2.2.2.2 then some (thingOf q.1 q.2.1 q.2.2.1 q.2.2.2.1, q.2.2.2.2) else none

theorem seqAt_eats {l : List UInt8} {a m b : Nat} {ns : List Nat} (ha : a ≤ l.length) (h : seqAt l a m = some (ns, b)) : ns.length = m ∧ (∀ n ∈ ns, inVar n) ∧ Eats l a (varsL (ints ns)) b := by
  unfold seqAt at h
  obtain ⟨⟨ms, k⟩, hq, he⟩ := Option.map_eq_some_iff.1 h
  cases he
  exact seq_eats ha hq
theorem eats_seqAt {l : List UInt8} {a b m : Nat} {ns : List Nat} (hn : ∀ n ∈ ns, inVar n) (hm : ns.length = m) (h : Eats l a (varsL (ints ns)) b) : seqAt l a m = some (ns, b) := by
  subst hm
  unfold seqAt
  rw [eats_seq hn h]
  have := h.le.2
  show some (ns, a + (b - a)) = _
  congr 2
  omega
theorem eats_listGo {l : List UInt8} {a b most each : Nat} {ns : List Nat} {n : Nat} (hn : ∀ n ∈ ns, inVar n) (hl : ns.length = n * each) (hm : n ≤ most) (hv : n ≤ 1000) (h : Eats l a (varS (n : Int) ++ varsL (ints ns)) b) : listGo l a most each = some (ns, b) := by
  obtain ⟨h1, h2⟩ := h.split
  unfold listGo
  rw [eats_seqAt (ns := [n]) (m := 1) (b := a + (varS (n : Int)).length) (by intro x hx; simp at hx; subst hx; unfold inVar; omega) rfl (by rw [show ints [n] = [(n : Int)] from rfl, varsL_one]; exact h1)]
  simp only [Option.bind_some, List.getD_cons_zero]
  rw [if_neg (by omega)]
  exact eats_seqAt hn hl h2
theorem ints_len (ns : List Nat) : (ints ns).length = ns.length := by simp [ints]
theorem pairs_nums : ∀ {q : List Msg}, (∀ m ∈ q, -1 ≤ m.f ∧ 0 ≤ m.n) → pairs ((q.flatMap msgNums).map Int.toNat) = q
  | [], _ => rfl
  | m :: q, h => by
    obtain ⟨h1, h2⟩ := h m (List.mem_cons_self ..)
    have ih := pairs_nums (q := q) fun x hx => h x (List.mem_cons_of_mem _ hx)
    obtain ⟨f, n⟩ := m
    dsimp only at h1 h2
    show ⟨((f + 1).toNat : Int) - 1, (n.toNat : Int)⟩ :: pairs ((q.flatMap msgNums).map Int.toNat) = _
    rw [ih]
    congr 2 <;> omega
def headNums (o : Thing) : List Int := [o.gen, o.kind, o.box + 1, o.res, o.til, o.pages, o.wait, o.got + 1, o.ran, flagI o.mark]
theorem thingNums_head (o : Thing) : thingNums o = headNums o ++ [(o.links.length : Int)] := rfl
theorem headNums_in {o : Thing} (h : Good o) : ∀ x ∈ headNums o, 0 ≤ x ∧ x ≤ 562949953421311 := fun x hx => thingNums_in h x (by rw [thingNums_head]; exact List.mem_append_left _ hx)
theorem eats_cast {l : List UInt8} {a b : Nat} {xs ys : List UInt8} (h : Eats l a xs b) (e : xs = ys) : Eats l a ys b := e ▸ h
/-- Where a right thing stands, its parts stand one behind the other. -/
theorem begins_parts {l : List UInt8} {o : Thing} {k : Nat} (h : Begins l o k) : ∃ a b c, Eats l 0 (varsL (headNums o)) a ∧ Eats l a (varS (o.links.length : Int) ++ varsL (linkNums o)) b ∧ Eats l b (varS (o.data.length : Int) ++ varsL o.data) c ∧ Eats l c (varS (o.queue.length : Int) ++ varsL (queueNums o)) k := by
  have he : Eats l 0 (varsL (headNums o) ++ ((varS (o.links.length : Int) ++ varsL (linkNums o)) ++ ((varS (o.data.length : Int) ++ varsL o.data) ++ (varS (o.queue.length : Int) ++ varsL (queueNums o))))) k :=
    eats_cast h.2 (by unfold thingShow; rw [thingNums_head, varsL_append, varsL_one]; simp only [List.append_assoc])
  obtain ⟨h1, he⟩ := he.split
  obtain ⟨h2, he⟩ := he.split
  obtain ⟨h3, he⟩ := he.split
  exact ⟨_, _, _, h1, h2, h3, he⟩
theorem parts_eats {l : List UInt8} {o : Thing} {a b c k : Nat} (h1 : Eats l 0 (varsL (headNums o)) a) (h2 : Eats l a (varS (o.links.length : Int) ++ varsL (linkNums o)) b) (h3 : Eats l b (varS (o.data.length : Int) ++ varsL o.data) c) (h4 : Eats l c (varS (o.queue.length : Int) ++ varsL (queueNums o)) k) : Eats l 0 (thingShow o) k :=
  eats_cast (h1.trans (h2.trans (h3.trans h4))) (by unfold thingShow; rw [thingNums_head, varsL_append, varsL_one]; simp only [List.append_assoc])
theorem thingOf_back {o : Thing} (h : Good o) : thingOf ((headNums o).map Int.toNat) ((linkNums o).map Int.toNat) (o.data.map Int.toNat) ((queueNums o).map Int.toNat) = o := by
  have h1 := (nats_ints (linkNums_in h)).1
  have h2 := (nats_ints (data_in h)).1
  have h3 := pairs_nums (q := o.queue) fun m hm => by have := h.msg m hm; omega
  unfold thingOf
  rw [h1, h2]
  unfold queueNums
  rw [h3]
  unfold linkNums
  rw [List.map_map]
  have h4 : o.links.map ((fun x : Int => x - 1) ∘ fun x => x + 1) = o.links := by
    refine (List.map_congr_left (g := id) fun x _ => ?_).trans (List.map_id _)
    show x + 1 - 1 = x
    omega
  have e1 := h.gen; have e2 := h.kind; have e3 := h.box; have e4 := h.res; have e5 := h.til; have e6 := h.pages; have e7 := h.wait; have e8 := h.got; have e9 := h.ran
  rw [h4]
  obtain ⟨gen, kind, box, res, til, pages, wait, got, ran, mark, links, data, queue⟩ := o
  dsimp only at *
  simp only [headNums, List.map_cons, List.map_nil, List.getD_cons_zero, List.getD_cons_succ]
  have em : decide ((flagI mark).toNat = 1) = mark := by cases mark <;> rfl
  rw [em]
  congr 1 <;> omega
theorem readThing_of {l : List UInt8} {o : Thing} {k : Nat} (h : Begins l o k) : readThing l = some (o, k) := by
  have hg := thing_good h.1
  obtain ⟨a, b, c, h1, h2, h3, h4⟩ := begins_parts h
  obtain ⟨i1, j1⟩ := nats_ints (headNums_in hg)
  obtain ⟨i2, j2⟩ := nats_ints (linkNums_in hg)
  obtain ⟨i3, j3⟩ := nats_ints (data_in hg)
  obtain ⟨i4, j4⟩ := nats_ints (queueNums_in hg)
  have q1 := eats_seqAt (m := 10) j1 (by simp [headNums]) (by rw [i1]; exact h1)
  have q2 := eats_listGo (most := 2) (each := 1) (n := o.links.length) j2 (by simp [linkNums]) hg.links (by have := hg.links; omega) (by rw [i2]; exact h2)
  have q3 := eats_listGo (most := 8) (each := 1) (n := o.data.length) j3 (by simp) hg.data (by have := hg.data; omega) (by rw [i3]; exact h3)
  have q4 := eats_listGo (most := 2) (each := 2) (n := o.queue.length) j4 (by rw [List.length_map, queueNums_len]) hg.queue (by have := hg.queue; omega) (by rw [i4]; exact h4)
  unfold readThing read4
  rw [q1]
  simp only [Option.bind_some]
  rw [q2]
  simp only [Option.bind_some]
  rw [q3]
  simp only [Option.bind_some]
  rw [q4]
  simp only [Option.map_some, Option.bind_some]
  rw [thingOf_back hg]
  have : showThing o = l.take k := by unfold showThing; rw [if_pos h.1, h.2.take]
  rw [if_pos this]
theorem listGo_le {l : List UInt8} {a b most each : Nat} {ns : List Nat} (ha : a ≤ l.length) (h : listGo l a most each = some (ns, b)) : a < b ∧ b ≤ l.length ∧ ns.length ≤ most * each ∧ (∀ n ∈ ns, inVar n) ∧ ns.length % each = 0 := by
  unfold listGo at h
  obtain ⟨⟨ms, c⟩, hq, h2⟩ := Option.bind_eq_some_iff.1 h
  dsimp only at h2
  obtain ⟨q1, q2, q3⟩ := seqAt_eats ha hq
  split at h2
  · cases h2
  · rename_i hc
    obtain ⟨r1, r2, r3⟩ := seqAt_eats q3.le.1 h2
    have := r3.le
    have := q3.le
    have hpos : 1 ≤ (varsL (ints ms)).length := by
      obtain ⟨n, rfl⟩ : ∃ n, ms = [n] := by
        match ms, q1 with
        | [n], _ => exact ⟨n, rfl⟩
      rw [show ints [n] = [(n : Int)] from rfl, varsL_one]
      exact (readVar_show (q2 n (by simp)) []).2
    refine ⟨by omega, by omega, ?_, r2, ?_⟩
    · rw [r1]; exact Nat.mul_le_mul_right _ (by omega)
    · rw [r1]; exact Nat.mul_mod_left _ _
theorem read4_le {l : List UInt8} {h lk dt qu : List Nat} {k : Nat} (hr : read4 l = some (h, lk, dt, qu, k)) : 0 < k ∧ k ≤ l.length ∧ h.length = 10 ∧ lk.length ≤ 2 ∧ dt.length ≤ 8 ∧ qu.length ≤ 4 ∧ qu.length % 2 = 0 ∧ (∀ n ∈ h, inVar n) ∧ (∀ n ∈ lk, inVar n) ∧ (∀ n ∈ dt, inVar n) ∧ (∀ n ∈ qu, inVar n) := by
  unfold read4 at hr
  obtain ⟨⟨h', a⟩, q1, hr⟩ := Option.bind_eq_some_iff.1 hr
  obtain ⟨⟨lk', b⟩, q2, hr⟩ := Option.bind_eq_some_iff.1 hr
  obtain ⟨⟨dt', c⟩, q3, hr⟩ := Option.bind_eq_some_iff.1 hr
  obtain ⟨⟨qu', d⟩, q4, hr⟩ := Option.map_eq_some_iff.1 hr
  dsimp only at q2 q3 q4 hr
  cases hr
  obtain ⟨s1, s2, s3⟩ := seqAt_eats (Nat.zero_le _) q1
  obtain ⟨t1, t2, t3, t4, t5⟩ := listGo_le s3.le.1 q2
  obtain ⟨u1, u2, u3, u4, u5⟩ := listGo_le t2 q3
  obtain ⟨v1, v2, v3, v4, v5⟩ := listGo_le u2 q4
  exact ⟨by omega, v2, s1, by omega, by omega, by omega, v5, s2, t4, u4, v4⟩
theorem readThing_begins {l : List UInt8} {o : Thing} {k : Nat} (h : readThing l = some (o, k)) : Begins l o k := by
  unfold readThing at h
  obtain ⟨⟨hh, lk, dt, qu, d⟩, q, h2⟩ := Option.bind_eq_some_iff.1 h
  obtain ⟨p1, p2, _⟩ := read4_le q
  dsimp only at h2
  split at h2
  · rename_i hs
    cases h2
    unfold showThing at hs
    cases hok : thingOk (thingOf hh lk dt qu)
    · rw [hok, if_neg (by decide)] at hs
      have : (l.take k).length = 0 := by rw [← hs]; rfl
      rw [List.length_take] at this
      omega
    · rw [hok, if_pos rfl] at hs
      exact ⟨hok, Eats.of_take hs.symm p2⟩
  · cases h2

/-- m numbers as the program's reader reads them. -/
def rNums (l : List UInt8) (a : Nat) (b : Bool) : Nat → List Nat × Nat × Bool
  | 0 => ([], a, b)
  | m + 1 => ((rNums l a b m).1 ++ [(rNum l (rNums l a b m).2.1 (rNums l a b m).2.2).1], (rNum l (rNums l a b m).2.1 (rNums l a b m).2.2).2)
def rList (l : List UInt8) (a : Nat) (b : Bool) (c : Int) : List Int × Nat × Bool :=
  if 10 < (rNum l a b).1 then ([], (rNum l a b).2.1, true)
  else ((ints (rNums l (rNum l a b).2.1 (rNum l a b).2.2 (rNum l a b).1).1).map (· - c), (rNums l (rNum l a b).2.1 (rNum l a b).2.2 (rNum l a b).1).2)
def rMsg (l : List UInt8) (a : Nat) (b : Bool) : Msg × Nat × Bool :=
  (⟨((rNum l a b).1 : Int) - 1, ((rNum l (rNum l a b).2.1 (rNum l a b).2.2).1 : Int)⟩, (rNum l (rNum l a b).2.1 (rNum l a b).2.2).2)
def rMsgs (l : List UInt8) (a : Nat) (b : Bool) : Nat → List Msg × Nat × Bool
  | 0 => ([], a, b)
  | m + 1 => ((rMsgs l a b m).1 ++ [(rMsg l (rMsgs l a b m).2.1 (rMsgs l a b m).2.2).1], (rMsg l (rMsgs l a b m).2.1 (rMsgs l a b m).2.2).2)
/-- What the program's reader makes of a text. -/
def rThing (l : List UInt8) : Option (Thing × Nat) :=
  let h := rNums l 0 false 9
  let f := rFlag l h.2.1 h.2.2
  let lk := rList l f.2.1 f.2.2 1
  let dt := rList l lk.2.1 lk.2.2 0
  let n := rNum l dt.2.1 dt.2.2
  let q := rMsgs l n.2.1 n.2.2 n.1
  let o : Thing := ⟨(h.1.getD 0 0 : Int), (h.1.getD 1 0 : Int), (h.1.getD 2 0 : Int) - 1, (h.1.getD 3 0 : Int), (h.1.getD 4 0 : Int), (h.1.getD 5 0 : Int), (h.1.getD 6 0 : Int), (h.1.getD 7 0 : Int) - 1, (h.1.getD 8 0 : Int), f.1, lk.1, dt.1, q.1⟩
  if 2 < n.1 then none else if (!q.2.2 && thingOk o) = true then some (o, q.2.1) else none

theorem rNums_le {l : List UInt8} {a : Nat} {b : Bool} (ha : a ≤ l.length) : ∀ m, (rNums l a b m).2.1 ≤ l.length ∧ (rNums l a b m).1.length = m ∧ ∀ n ∈ (rNums l a b m).1, inVar n
  | 0 => ⟨ha, rfl, by intro n hn; cases hn⟩
  | m + 1 => by
    obtain ⟨h1, h2, h3⟩ := rNums_le (b := b) ha m
    obtain ⟨r1, r2⟩ := rNum_le (b := (rNums l a b m).2.2) h1
    refine ⟨r1, by rw [rNums, List.length_append, h2]; rfl, ?_⟩
    intro n hn
    rw [rNums] at hn
    rcases List.mem_append.1 hn with hn | hn
    · exact h3 n hn
    · simp at hn; rw [hn]; exact r2
theorem rNums_eats {l : List UInt8} {a a' : Nat} {b : Bool} (ha : a ≤ l.length) : ∀ {m : Nat} {ns : List Nat}, rNums l a b m = (ns, a', false) → b = false ∧ Eats l a (varsL (ints ns)) a' := by
  intro m
  induction m generalizing a' with
  | zero =>
    intro ns h
    rw [rNums] at h
    cases h
    exact ⟨rfl, Eats.nil ha⟩
  | succ m ih =>
    intro ns h
    rw [rNums] at h
    obtain ⟨ms, c, f, hq⟩ : ∃ ms c f, rNums l a b m = (ms, c, f) := ⟨_, _, _, rfl⟩
    have hle := (rNums_le (b := b) ha m).1
    rw [hq] at h hle
    dsimp only at h hle
    obtain ⟨n, d, g, hn⟩ : ∃ n d g, rNum l c f = (n, d, g) := ⟨_, _, _, rfl⟩
    rw [hn] at h
    dsimp only at h
    cases h
    obtain ⟨e1, e2, e3⟩ := rNum_eats hle hn
    subst e1
    obtain ⟨f1, f2⟩ := ih hq
    refine ⟨f1, eats_cast (f2.trans e3) ?_⟩
    rw [show ints (ms ++ [n]) = ints ms ++ [(n : Int)] from by simp [ints], varsL_append, varsL_one]
theorem eats_rNums {l : List UInt8} {a : Nat} : ∀ (ns : List Nat) {b m : Nat}, (∀ n ∈ ns, inVar n) → ns.length = m → Eats l a (varsL (ints ns)) b → rNums l a false m = (ns, b, false) := by
  intro ns
  induction hm : ns.length generalizing ns with
  | zero =>
    intro b m hn hl h
    have : ns = [] := List.eq_nil_of_length_eq_zero hm
    subst this hl
    have := h.le.2
    rw [rNums]
    simp [ints, varsL] at this
    rw [this]
  | succ j ih =>
    intro b m hn hl h
    have hne : ns ≠ [] := by intro e; subst e; simp at hm
    obtain ⟨ms, n, rfl⟩ : ∃ ms n, ns = ms ++ [n] := ⟨ns.dropLast, ns.getLast hne, (List.dropLast_concat_getLast hne).symm⟩
    rw [show ints (ms ++ [n]) = ints ms ++ [(n : Int)] from by simp [ints], varsL_append, varsL_one] at h
    obtain ⟨h1, h2⟩ := h.split
    have hms : ms.length = j := by simpa using hm
    have := ih ms hms (m := j) (fun x hx => hn x (by simp [hx])) rfl h1
    obtain rfl : m = j + 1 := by omega
    rw [rNums, this]
    dsimp only
    rw [eats_rNum (hn n (by simp)) h2]
theorem rFlag_eats {l : List UInt8} {a c : Nat} {b f : Bool} (ha : a ≤ l.length) (h : rFlag l a b = (f, c, false)) : b = false ∧ Eats l a (varS (flagI f)) c := by
  obtain ⟨n, d, g, hn⟩ : ∃ n d g, rNum l a b = (n, d, g) := ⟨_, _, _, rfl⟩
  unfold rFlag at h
  rw [hn] at h
  simp only [Prod.mk.injEq, Bool.or_eq_false_iff, decide_eq_false_iff_not] at h
  obtain ⟨h1, rfl, rfl, h2⟩ := h
  obtain ⟨e1, e2, e3⟩ := rNum_eats ha hn
  refine ⟨e1, eats_cast e3 ?_⟩
  have : n = 0 ∨ n = 1 := by omega
  rcases this with rfl | rfl <;> subst h1 <;> rfl
theorem eats_rFlag {l : List UInt8} {a c : Nat} {f : Bool} (h : Eats l a (varS (flagI f)) c) : rFlag l a false = (f, c, false) := by
  have e : flagI f = (((flagI f).toNat : Nat) : Int) := by cases f <;> rfl
  rw [e] at h
  have := eats_rNum (by unfold inVar; cases f <;> decide) h
  unfold rFlag
  rw [this]
  cases f <;> rfl
theorem rList_le {l : List UInt8} {a : Nat} {b : Bool} {c : Int} (ha : a ≤ l.length) : (rList l a b c).2.1 ≤ l.length ∧ (rList l a b c).1.length ≤ 10 := by
  obtain ⟨h1, h2⟩ := rNum_le (b := b) ha
  unfold rList
  split
  · exact ⟨h1, by simp⟩
  · obtain ⟨r1, r2, _⟩ := rNums_le (b := (rNum l a b).2.2) h1 (rNum l a b).1
    exact ⟨r1, by rw [List.length_map, ints_len, r2]; omega⟩
theorem map_back (xs : List Int) (c : Int) : (xs.map (· - c)).map (· + c) = xs := by
  rw [List.map_map]
  refine (List.map_congr_left (g := id) fun x _ => ?_).trans (List.map_id _)
  show x - c + c = x
  omega
theorem map_back' (xs : List Int) (c : Int) : (xs.map (· + c)).map (· - c) = xs := by
  rw [List.map_map]
  refine (List.map_congr_left (g := id) fun x _ => ?_).trans (List.map_id _)
  show x + c - c = x
  omega
theorem rList_eats {l : List UInt8} {a d : Nat} {b : Bool} {c : Int} {xs : List Int} (ha : a ≤ l.length) (h : rList l a b c = (xs, d, false)) : b = false ∧ Eats l a (varS (xs.length : Int) ++ varsL (xs.map (· + c))) d := by
  obtain ⟨n, e, g, hn⟩ : ∃ n d g, rNum l a b = (n, d, g) := ⟨_, _, _, rfl⟩
  have hle := (rNum_le (b := b) ha).1
  unfold rList at h
  rw [hn] at h hle
  dsimp only at h hle
  split at h
  · cases h
  · obtain ⟨ms, c', f, hq⟩ : ∃ ms c f, rNums l e g n = (ms, c, f) := ⟨_, _, _, rfl⟩
    have hl := (rNums_le (b := g) hle n).2.1
    rw [hq] at h hl
    dsimp only at h hl
    cases h
    obtain ⟨f1, f2⟩ := rNums_eats hle hq
    subst f1
    obtain ⟨e1, _, e3⟩ := rNum_eats ha hn
    refine ⟨e1, eats_cast (e3.trans f2) ?_⟩
    rw [map_back, List.length_map, ints_len, hl]
theorem eats_rList {l : List UInt8} {a d : Nat} {c : Int} {xs : List Int} (hx : ∀ x ∈ xs.map (· + c), 0 ≤ x ∧ x ≤ 562949953421311) (hl : xs.length ≤ 10) (h : Eats l a (varS (xs.length : Int) ++ varsL (xs.map (· + c))) d) : rList l a false c = (xs, d, false) := by
  obtain ⟨h1, h2⟩ := h.split
  obtain ⟨i1, i2⟩ := nats_ints hx
  have q1 := eats_rNum (n := xs.length) (by unfold inVar; omega) h1
  have q2 := eats_rNums (m := xs.length) ((xs.map (· + c)).map Int.toNat) i2 (by simp) (by rw [i1]; exact h2)
  unfold rList
  rw [q1]
  dsimp only
  rw [if_neg (by omega), q2, i1, map_back']
theorem rMsgs_le {l : List UInt8} {a : Nat} {b : Bool} (ha : a ≤ l.length) : ∀ m, (rMsgs l a b m).2.1 ≤ l.length ∧ (rMsgs l a b m).1.length = m
  | 0 => ⟨ha, rfl⟩
  | m + 1 => by
    obtain ⟨h1, h2⟩ := rMsgs_le (b := b) ha m
    exact ⟨(rNum_le (rNum_le h1).1).1, by rw [rMsgs, List.length_append, h2]; rfl⟩
theorem rMsgs_eats {l : List UInt8} {a a' : Nat} {b : Bool} (ha : a ≤ l.length) : ∀ {m : Nat} {q : List Msg}, rMsgs l a b m = (q, a', false) → b = false ∧ Eats l a (varsL (q.flatMap msgNums)) a' := by
  intro m
  induction m generalizing a' with
  | zero =>
    intro q h
    rw [rMsgs] at h
    cases h
    exact ⟨rfl, Eats.nil ha⟩
  | succ m ih =>
    intro q h
    rw [rMsgs] at h
    obtain ⟨ms, c, f, hq⟩ : ∃ ms c f, rMsgs l a b m = (ms, c, f) := ⟨_, _, _, rfl⟩
    have hle := (rMsgs_le (b := b) ha m).1
    rw [hq] at h hle
    unfold rMsg at h
    dsimp only at h hle
    obtain ⟨n, d, g, hn⟩ : ∃ n d g, rNum l c f = (n, d, g) := ⟨_, _, _, rfl⟩
    have hle2 := (rNum_le (b := f) hle).1
    rw [hn] at h hle2
    dsimp only at h hle2
    obtain ⟨n2, d2, g2, hn2⟩ : ∃ n d' g', rNum l d g = (n, d', g') := ⟨_, _, _, rfl⟩
    rw [hn2] at h
    dsimp only at h
    cases h
    obtain ⟨e1, e2, e3⟩ := rNum_eats hle2 hn2
    subst e1
    obtain ⟨g1, g2, g3⟩ := rNum_eats hle hn
    subst g1
    obtain ⟨f1, f2⟩ := ih hq
    refine ⟨f1, eats_cast (f2.trans (g3.trans e3)) ?_⟩
    rw [List.flatMap_append, varsL_append]
    congr 1
    simp [msgNums, varsL]
theorem eats_rMsgs {l : List UInt8} {a : Nat} : ∀ (q : List Msg) {b m : Nat}, (∀ m ∈ q, -1 ≤ m.f ∧ m.f ≤ 29999 ∧ 0 ≤ m.n ∧ m.n ≤ 999) → q.length = m → Eats l a (varsL (q.flatMap msgNums)) b → rMsgs l a false m = (q, b, false) := by
  intro q
  induction hm : q.length generalizing q with
  | zero =>
    intro b m hn hl h
    have : q = [] := List.eq_nil_of_length_eq_zero hm
    subst this hl
    have := h.le.2
    rw [rMsgs]
    simp [varsL] at this
    rw [this]
  | succ j ih =>
    intro b m hn hl h
    have hne : q ≠ [] := by intro e; subst e; simp at hm
    obtain ⟨ms, x, rfl⟩ : ∃ ms n, q = ms ++ [n] := ⟨q.dropLast, q.getLast hne, (List.dropLast_concat_getLast hne).symm⟩
    obtain ⟨xf, xn⟩ := x
    obtain ⟨x1, x2, x3, x4⟩ := hn ⟨xf, xn⟩ (by simp)
    dsimp only at x1 x2 x3 x4
    have e1 : (((xf + 1).toNat : Nat) : Int) = xf + 1 := by omega
    have e2 : ((xn.toNat : Nat) : Int) = xn := by omega
    have e : varsL ((ms ++ [Msg.mk xf xn]).flatMap msgNums) = varsL (ms.flatMap msgNums) ++ (varS ((xf + 1).toNat : Int) ++ varS (xn.toNat : Int)) := by
      rw [List.flatMap_append, varsL_append, e1, e2]
      congr 1
      simp [msgNums, varsL]
    rw [e] at h
    obtain ⟨h1, h2⟩ := h.split
    obtain ⟨h2, h3⟩ := h2.split
    have hms : ms.length = j := by simpa using hm
    have := ih ms hms (m := j) (fun x hx => hn x (by simp [hx])) rfl h1
    obtain rfl : m = j + 1 := by omega
    rw [rMsgs, this]
    unfold rMsg
    dsimp only
    rw [eats_rNum (by unfold inVar; omega) h2]
    dsimp only
    rw [eats_rNum (by unfold inVar; omega) h3]
    dsimp only
    rw [e1, e2, show xf + 1 - 1 = xf by omega]
theorem rThing_of {l : List UInt8} {o : Thing} {k : Nat} (h : Begins l o k) : rThing l = some (o, k) := by
  have hg := thing_good h.1
  obtain ⟨a, b, c, h1, h2, h3, h4⟩ := begins_parts h
  have hh : headNums o = [o.gen, o.kind, o.box + 1, o.res, o.til, o.pages, o.wait, o.got + 1, o.ran] ++ [flagI o.mark] := rfl
  rw [hh, varsL_append, varsL_one] at h1
  obtain ⟨h0, h1⟩ := h1.split
  obtain ⟨i1, j1⟩ := nats_ints (l := [o.gen, o.kind, o.box + 1, o.res, o.til, o.pages, o.wait, o.got + 1, o.ran]) (fun x hx => headNums_in hg x (by rw [hh]; exact List.mem_append_left _ hx))
  have q0 := eats_rNums (m := 9) _ j1 (by simp) (by rw [i1]; exact h0)
  have q1 := eats_rFlag h1
  have q2 := eats_rList (c := 1) (xs := o.links) (linkNums_in hg) (by have := hg.links; omega) h2
  have hd0 : o.data.map (· + 0) = o.data := by simp
  have q3 := eats_rList (c := 0) (xs := o.data) (by rw [hd0]; exact data_in hg) (by have := hg.data; omega) (by rw [hd0]; exact h3)
  obtain ⟨h4, h5⟩ := h4.split
  have q4 := eats_rNum (n := o.queue.length) (by have := hg.queue; unfold inVar; omega) h4
  have q5 := eats_rMsgs (m := o.queue.length) o.queue (fun m hm => hg.msg m hm) rfl h5
  unfold rThing
  rw [q0]
  dsimp only
  rw [q1]
  dsimp only
  rw [q2]
  dsimp only
  rw [q3]
  dsimp only
  rw [q4]
  dsimp only
  rw [q5]
  dsimp only
  rw [if_neg (by have := hg.queue; omega)]
  have e1 := hg.gen; have e2 := hg.kind; have e3 := hg.box; have e4 := hg.res; have e5 := hg.til; have e6 := hg.pages; have e7 := hg.wait; have e8 := hg.got; have e9 := hg.ran
  have ho := h.1
  obtain ⟨gen, kind, box, res, til, pages, wait, got, ran, mark, links, data, queue⟩ := o
  dsimp only at *
  simp only [List.map_cons, List.map_nil, List.getD_cons_zero, List.getD_cons_succ]
  have w1 : (gen.toNat : Int) = gen := by omega
  have w2 : (kind.toNat : Int) = kind := by omega
  have w3 : ((box + 1).toNat : Int) - 1 = box := by omega
  have w4 : (res.toNat : Int) = res := by omega
  have w5 : (til.toNat : Int) = til := by omega
  have w6 : (pages.toNat : Int) = pages := by omega
  have w7 : (wait.toNat : Int) = wait := by omega
  have w8 : ((got + 1).toNat : Int) - 1 = got := by omega
  have w9 : (ran.toNat : Int) = ran := by omega
  rw [w1, w2, w3, w4, w5, w6, w7, w8, w9, ho]
  rfl
theorem rThing_begins {l : List UInt8} {o : Thing} {k : Nat} (h : rThing l = some (o, k)) : Begins l o k := by
  unfold rThing at h
  obtain ⟨hs, a0, b0, q0⟩ : ∃ x y z, rNums l 0 false 9 = (x, y, z) := ⟨_, _, _, rfl⟩
  have le0 := rNums_le (b := false) (Nat.zero_le l.length) 9
  rw [q0] at h le0
  dsimp only at h le0
  obtain ⟨f, a1, b1, q1⟩ : ∃ x y z, rFlag l a0 b0 = (x, y, z) := ⟨_, _, _, rfl⟩
  have le1 : a1 ≤ l.length := by
    have := (rNum_le (b := b0) le0.1).1
    have e : (rFlag l a0 b0).2.1 = a1 := by rw [q1]
    rw [← e]; exact this
  rw [q1] at h
  dsimp only at h
  obtain ⟨lk, a2, b2, q2⟩ : ∃ x y z, rList l a1 b1 1 = (x, y, z) := ⟨_, _, _, rfl⟩
  have le2 := (rList_le (b := b1) (c := 1) le1).1
  rw [q2] at h le2
  dsimp only at h le2
  obtain ⟨dt, a3, b3, q3⟩ : ∃ x y z, rList l a2 b2 0 = (x, y, z) := ⟨_, _, _, rfl⟩
  have le3 := (rList_le (b := b2) (c := 0) le2).1
  rw [q3] at h le3
  dsimp only at h le3
  obtain ⟨n, a4, b4, q4⟩ : ∃ x y z, rNum l a3 b3 = (x, y, z) := ⟨_, _, _, rfl⟩
  have le4 := (rNum_le (b := b3) le3).1
  rw [q4] at h le4
  dsimp only at h le4
  obtain ⟨q, a5, b5, q5⟩ : ∃ x y z, rMsgs l a4 b4 n = (x, y, z) := ⟨_, _, _, rfl⟩
  have le5 := (rMsgs_le (b := b4) le4 n).2
  rw [q5] at h le5
  dsimp only at h le5
  split at h
  · cases h
  · split at h
    · rename_i hn hok
      rw [Bool.and_eq_true, Bool.not_eq_true'] at hok
      obtain ⟨rfl, hok⟩ := hok
      cases h
      obtain ⟨rfl, e5⟩ := rMsgs_eats le4 q5
      obtain ⟨rfl, e3, e4⟩ := rNum_eats le3 q4
      obtain ⟨rfl, e2⟩ := rList_eats le2 q3
      obtain ⟨rfl, e1⟩ := rList_eats le1 q2
      obtain ⟨rfl, e0⟩ := rFlag_eats le0.1 q1
      obtain ⟨_, e⟩ := rNums_eats (Nat.zero_le _) q0
      have hd0 : dt.map (· + 0) = dt := by simp
      rw [hd0] at e2
      refine ⟨hok, parts_eats (a := a1) (b := a2) (c := a3) (eats_cast (e.trans e0) ?_) e1 e2 (eats_cast (e4.trans e5) ?_)⟩
      · rw [← varsL_one, ← varsL_append]
        congr 1
        have h9 := le0.2.1
        match hs, h9 with
        | [x0, x1, x2, x3, x4, x5, x6, x7, x8], _ =>
          simp only [headNums, ints, List.map_cons, List.map_nil, List.getD_cons_zero, List.getD_cons_succ, List.cons_append, List.nil_append, List.cons.injEq, and_true, true_and]
          omega
      · show _ = varS (q.length : Int) ++ varsL (q.flatMap msgNums)
        rw [le5]
    · cases h
/-- Both sides read the same. -/
theorem rThing_eq (l : List UInt8) : rThing l = readThing l := by
  cases h : readThing l with
  | some p => obtain ⟨o, k⟩ := p; exact rThing_of (readThing_begins h)
  | none =>
    cases h2 : rThing l with
    | none => rfl
    | some p => obtain ⟨o, k⟩ := p; rw [readThing_of (rThing_begins h2)] at h; cases h
end Go.Proofs.Ytabbncoihmhocaa
