/- What a thing shows; plain laws. -/
import Derived.Test.YtabbncoihmhocaaObjPure
import Derived.Test.YtabbncoihmhocaaSeqPure
namespace Go.Proofs.Ytabbncoihmhocaa
open Go.RowKit

def thingNums (o : Thing) : List Int := [o.gen, o.kind, o.box + 1, o.res, o.til, o.pages, o.wait, o.got + 1, o.ran, flagI o.mark, (o.links.length : Int)]
def msgNums (m : Msg) : List Int := [m.f + 1, m.n]
def linkNums (o : Thing) : List Int := o.links.map (· + 1)
def queueNums (o : Thing) : List Int := o.queue.flatMap msgNums
def thingShow (o : Thing) : List UInt8 :=
  varsL (thingNums o) ++ (varsL (linkNums o) ++ (varS (o.data.length : Int) ++ (varsL o.data ++ (varS (o.queue.length : Int) ++ varsL (queueNums o)))))
def showThing (o : Thing) : List UInt8 := if thingOk o = true then thingShow o else []

theorem queueNums_len (o : Thing) : (queueNums o).length = o.queue.length * 2 := by
  unfold queueNums
  induction o.queue with
  | nil => rfl
  | cons m q ih => rw [List.flatMap_cons, List.length_append, ih, List.length_cons]; simp [msgNums]; omega
theorem varsL_append (a b : List Int) : varsL (a ++ b) = varsL a ++ varsL b := by unfold varsL; rw [List.flatMap_append]
theorem varsL_one (x : Int) : varsL [x] = varS x := by unfold varsL; simp
theorem thingShow_len (o : Thing) : (thingShow o).length ≤ 8 * (13 + o.links.length + o.data.length + 2 * o.queue.length) := by
  have h1 := varsL_len (thingNums o)
  have h2 := varsL_len (linkNums o)
  have h3 := varS_len (o.data.length : Int)
  have h4 := varsL_len o.data
  have h5 := varS_len (o.queue.length : Int)
  have h6 := varsL_len (queueNums o)
  have e1 : (thingNums o).length = 11 := rfl
  have e2 : (linkNums o).length = o.links.length := by simp [linkNums]
  have e3 : (queueNums o).length = o.queue.length * 2 := queueNums_len o
  unfold thingShow
  simp only [List.length_append]
  omega

/-- What a right thing is. -/
structure Good (o : Thing) : Prop where
  gen : 0 ≤ o.gen ∧ o.gen ≤ 999
  kind : 0 ≤ o.kind ∧ o.kind ≤ 4
  box : -1 ≤ o.box ∧ o.box ≤ 9
  res : 0 ≤ o.res ∧ o.res ≤ 4
  til : 0 ≤ o.til ∧ o.til ≤ 1000000
  pages : 0 ≤ o.pages ∧ o.pages ≤ 8
  wait : 0 ≤ o.wait ∧ o.wait ≤ 30000
  got : -1 ≤ o.got ∧ o.got ≤ 999
  ran : 0 ≤ o.ran ∧ o.ran ≤ 1000000
  links : o.links.length ≤ 2
  data : o.data.length ≤ 8
  queue : o.queue.length ≤ 2
  link : ∀ x ∈ o.links, -1 ≤ x ∧ x ≤ 9
  datum : ∀ x ∈ o.data, 0 ≤ x ∧ x ≤ 999
  msg : ∀ m ∈ o.queue, -1 ≤ m.f ∧ m.f ≤ 29999 ∧ 0 ≤ m.n ∧ m.n ≤ 999
theorem thing_good {o : Thing} (h : thingOk o = true) : Good o := by
  unfold thingOk at h
  rw [Bool.and_eq_true, Bool.and_eq_true, inB_true, inB_true] at h
  obtain ⟨hg, hk, h⟩ := h
  by_cases k0 : o.kind = 0
  · rw [if_pos k0, decide_eq_true_eq] at h
    rw [h] at hg ⊢
    refine ⟨hg, ?_, ?_, ?_, ?_, ?_, ?_, ?_, ?_, ?_, ?_, ?_, ?_, ?_, ?_⟩ <;> simp [noThing]
  · rw [if_neg k0] at h
    simp only [Bool.and_eq_true, inB_true] at h
    obtain ⟨hb, hr, ht, hp, hl, hth⟩ := h
    unfold listsOk shapeOk at hl
    simp only [Bool.and_eq_true, List.all_eq_true, decide_eq_true_eq, inB_true] at hl
    obtain ⟨l1, l2, l3, l4, l5, l6⟩ := hl
    have hd : o.data.length ≤ 8 := by unfold dataWant at l5; split at l5 <;> omega
    have hq : o.queue.length ≤ 2 := by unfold queueWant at l6; split at l6 <;> omega
    have hm : ∀ m ∈ o.queue, -1 ≤ m.f ∧ m.f ≤ 29999 ∧ 0 ≤ m.n ∧ m.n ≤ 999 := fun m hm => by
      have := l3 m hm
      unfold msgOk isHandleB at this
      simp only [Bool.and_eq_true, Bool.or_eq_true, decide_eq_true_eq, inB_true] at this
      omega
    have hw : (0 ≤ o.wait ∧ o.wait ≤ 30000) ∧ (-1 ≤ o.got ∧ o.got ≤ 999) ∧ (0 ≤ o.ran ∧ o.ran ≤ 1000000) := by
      unfold threadOk isHandleB at hth
      split at hth
      all_goals
        simp only [Bool.and_eq_true, Bool.or_eq_true, decide_eq_true_eq, inB_true] at hth
        omega
    exact ⟨hg, hk, hb, hr, ht, hp, hw.1, hw.2.1, hw.2.2, by omega, hd, hq, l1, l2, hm⟩

/-- From a to b stand just the bytes xs. -/
def Eats (l : List UInt8) (a : Nat) (xs : List UInt8) (b : Nat) : Prop := ∃ rest, l.drop a = xs ++ rest ∧ b = a + xs.length ∧ b ≤ l.length
theorem Eats.drop {l : List UInt8} {a b : Nat} {xs : List UInt8} (h : Eats l a xs b) : l.drop a = xs ++ l.drop b := by
  obtain ⟨rest, h1, rfl, _⟩ := h
  have : l.drop (a + xs.length) = rest := by rw [← List.drop_drop, h1, List.drop_left' rfl]
  rw [this, h1]
theorem Eats.trans {l : List UInt8} {a b c : Nat} {xs ys : List UInt8} (h : Eats l a xs b) (k : Eats l b ys c) : Eats l a (xs ++ ys) c :=
  ⟨l.drop c, by rw [h.drop, k.drop, List.append_assoc], by obtain ⟨_, _, rfl, _⟩ := h; obtain ⟨_, _, rfl, _⟩ := k; rw [List.length_append]; omega, by obtain ⟨_, _, _, h3⟩ := k; exact h3⟩
theorem Eats.split {l : List UInt8} {a c : Nat} {xs ys : List UInt8} (h : Eats l a (xs ++ ys) c) : Eats l a xs (a + xs.length) ∧ Eats l (a + xs.length) ys c := by
  obtain ⟨rest, h1, rfl, h3⟩ := h
  rw [List.length_append] at h3
  refine ⟨⟨ys ++ rest, by rw [h1, List.append_assoc], rfl, by omega⟩, rest, ?_, by rw [List.length_append]; omega, by rw [List.length_append]; exact h3⟩
  rw [← List.drop_drop, h1, List.append_assoc, List.drop_left' rfl]
theorem Eats.nil {l : List UInt8} {a : Nat} (h : a ≤ l.length) : Eats l a [] a := ⟨l.drop a, rfl, rfl, h⟩
theorem Eats.le {l : List UInt8} {a b : Nat} {xs : List UInt8} (h : Eats l a xs b) : b ≤ l.length ∧ b = a + xs.length := by
  obtain ⟨_, _, h2, h3⟩ := h; exact ⟨h3, h2⟩
theorem Eats.take {l : List UInt8} {b : Nat} {xs : List UInt8} (h : Eats l 0 xs b) : l.take b = xs := by
  obtain ⟨rest, h1, rfl, _⟩ := h
  rw [List.drop_zero] at h1
  rw [h1, Nat.zero_add, List.take_left' rfl]
theorem Eats.of_take {l : List UInt8} {b : Nat} {xs : List UInt8} (h : l.take b = xs) (hb : b ≤ l.length) : Eats l 0 xs b := by
  subst h
  exact ⟨l.drop b, by rw [List.drop_zero, List.take_append_drop], by rw [List.length_take]; omega, hb⟩

theorem rNum_eats {l : List UInt8} {a n b : Nat} {f : Bool} (ha : a ≤ l.length) (h : rNum l a f = (n, b, false)) : f = false ∧ inVar n ∧ Eats l a (varS (n : Int)) b := by
  obtain ⟨h1, h2, rfl, rfl⟩ := rNum_ok h
  obtain ⟨s1, s2, s3, s4⟩ := readVar_spec h2
  rw [List.length_drop] at s2
  refine ⟨h1, s4, (l.drop a).drop (readVar (l.drop a)).2, ?_, ?_, by omega⟩
  · rw [s1, List.take_append_drop]
  · rw [s1, List.length_take, List.length_drop]; omega
theorem eats_rNum {l : List UInt8} {a n b : Nat} (hn : inVar n) (h : Eats l a (varS (n : Int)) b) : rNum l a false = (n, b, false) := by
  have hd := h.drop
  obtain ⟨_, _, hb, _⟩ := h
  obtain ⟨r1, r2⟩ := readVar_show hn (l.drop b)
  rw [← hd] at r1
  unfold rNum
  rw [r1]
  rw [if_neg (by simp; intro e; rw [e] at r2; simp at r2)]
  dsimp only
  rw [← hb]
theorem seq_eats {l : List UInt8} {a m k : Nat} {ns : List Nat} (ha : a ≤ l.length) (h : seqGo (l.drop a) m = some (ns, k)) : ns.length = m ∧ (∀ n ∈ ns, inVar n) ∧ Eats l a (varsL (ints ns)) (a + k) := by
  obtain ⟨h1, h2, h3, h4, _⟩ := seqGo_inv h
  rw [List.length_drop] at h2
  refine ⟨h1, h4, (l.drop a).drop k, by rw [h3, List.take_append_drop], ?_, by omega⟩
  rw [h3, List.length_take, List.length_drop]; omega
theorem eats_seq {l : List UInt8} {a b : Nat} {ns : List Nat} (hn : ∀ n ∈ ns, inVar n) (h : Eats l a (varsL (ints ns)) b) : seqGo (l.drop a) ns.length = some (ns, b - a) := by
  have hd := h.drop
  have hb := h.le.2
  rw [seqGo_show (l.drop a) ns [] (l.drop b) (by rw [List.append_nil]; exact hd) hn]
  rw [hb]
  congr 2
  omega

/-- l begins with a right thing of k bytes. -/
def Begins (l : List UInt8) (o : Thing) (k : Nat) : Prop := thingOk o = true ∧ Eats l 0 (thingShow o) k

theorem nats_ints {l : List Int} (h : ∀ x ∈ l, 0 ≤ x ∧ x ≤ 562949953421311) : ints (l.map Int.toNat) = l ∧ ∀ n ∈ l.map Int.toNat, inVar n := by
  refine ⟨?_, ?_⟩
  · unfold ints
    rw [List.map_map]
    refine (List.map_congr_left (g := id) fun x hx => ?_).trans (List.map_id _)
    have := h x hx
    show ((x.toNat : Nat) : Int) = x
    omega
  · intro n hn
    obtain ⟨x, hx, rfl⟩ := List.mem_map.1 hn
    have := h x hx
    unfold inVar
    omega
theorem thingNums_in {o : Thing} (h : Good o) : ∀ x ∈ thingNums o, 0 ≤ x ∧ x ≤ 562949953421311 := by
  have : flagI o.mark = 0 ∨ flagI o.mark = 1 := by cases o.mark <;> simp [flagI]
  have h1 := h.gen; have h2 := h.kind; have h3 := h.box; have h4 := h.res; have h5 := h.til; have h6 := h.pages; have h7 := h.wait; have h8 := h.got; have h9 := h.ran; have h10 := h.links
  unfold thingNums
  simp only [List.mem_cons, List.not_mem_nil, or_false, forall_eq_or_imp, forall_eq]
  omega
theorem linkNums_in {o : Thing} (h : Good o) : ∀ x ∈ linkNums o, 0 ≤ x ∧ x ≤ 562949953421311 := by
  intro x hx
  unfold linkNums at hx
  obtain ⟨y, hy, rfl⟩ := List.mem_map.1 hx
  have := h.link y hy
  omega
theorem data_in {o : Thing} (h : Good o) : ∀ x ∈ o.data, 0 ≤ x ∧ x ≤ 562949953421311 := fun x hx => by have := h.datum x hx; omega
theorem queueNums_in {o : Thing} (h : Good o) : ∀ x ∈ queueNums o, 0 ≤ x ∧ x ≤ 562949953421311 := by
  intro x hx
  unfold queueNums at hx
  obtain ⟨m, hm, hx⟩ := List.mem_flatMap.1 hx
  have := h.msg m hm
  unfold msgNums at hx
  simp only [List.mem_cons, List.not_mem_nil, or_false] at hx
  omega
end Go.Proofs.Ytabbncoihmhocaa
