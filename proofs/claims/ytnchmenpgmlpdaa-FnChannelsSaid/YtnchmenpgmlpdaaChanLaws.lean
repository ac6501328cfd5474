/- Reach, closure, what flows: plain laws. -/
import Derived.Test.YtnchmenpgmlpdaaLeaksS
namespace Go.Proofs.Ytnchmenpgmlpdaa
open Go.RowKit

theorem rpass_len (n : Int) : ∀ (l : List Chan) (s : List Bool), (rpass n l s).length = s.length
  | [], _ => rfl
  | c :: l, s => by
    show (rpass n l (rstep n s c)).length = _
    rw [rpass_len n l, rstep_len]
theorem riter_len (n : Int) (l : List Chan) : ∀ (m : Nat) (s : List Bool), (riter n l m s).length = s.length
  | 0, _ => rfl
  | m + 1, s => by rw [riter, riter_len n l m, rpass_len]
theorem rstep_mono {n : Int} {s : List Bool} {c : Chan} {k : Nat} (h : s.getD k false = true) : (rstep n s c).getD k false = true := by
  unfold rstep
  split
  · rw [List.getD_eq_getElem?_getD, List.getElem?_set]
    rw [List.getD_eq_getElem?_getD] at h
    split
    · next e =>
      subst e
      split
      · rfl
      · next hl => rw [List.getElem?_eq_none (by omega)] at h; simp at h
    · exact h
  · exact h
theorem rpass_mono {n : Int} {k : Nat} : ∀ (l : List Chan) {s : List Bool}, s.getD k false = true → (rpass n l s).getD k false = true
  | [], _, h => h
  | c :: l, s, h => by
    show (rpass n l (rstep n s c)).getD k false = true
    exact rpass_mono l (rstep_mono h)
theorem riter_mono {n : Int} {l : List Chan} {k : Nat} : ∀ (m : Nat) {s : List Bool}, s.getD k false = true → (riter n l m s).getD k false = true
  | 0, _, h => h
  | m + 1, s, h => by rw [riter]; exact riter_mono m (rpass_mono l h)
theorem rstep_count {n : Int} {s : List Bool} {c : Chan} : rstep n s c = s ∨ s.count true < (rstep n s c).count true := by
  unfold rstep
  split
  · by_cases h : s.getD c.t.toNat false = true
    · exact .inl (set_same h)
    · have h' : s.getD c.t.toNat false = false := by simpa using h
      by_cases hl : c.t.toNat < s.length
      · right; rw [count_set hl h']; omega
      · left
        exact List.set_eq_of_length_le (by omega)
  · exact .inl rfl
theorem rpass_count {n : Int} : ∀ (l : List Chan) (s : List Bool), rpass n l s = s ∨ s.count true < (rpass n l s).count true
  | [], _ => .inl rfl
  | c :: l, s => by
    show rpass n l (rstep n s c) = s ∨ s.count true < (rpass n l (rstep n s c)).count true
    rcases rstep_count (n := n) (s := s) (c := c) with h | h
    · rw [h]; exact rpass_count l s
    · right
      rcases rpass_count l (rstep n s c) with h2 | h2
      · rw [h2]; exact h
      · omega
theorem riter_closed {n : Int} {l : List Chan} : ∀ (m : Nat) (s : List Bool), s.length ≤ m + s.count true → rpass n l (riter n l m s) = riter n l m s
  | 0, s, h => by
    rcases rpass_count (n := n) l s with h2 | h2
    · exact h2
    · have h3 := count_len (rpass n l s)
      rw [rpass_len] at h3
      omega
  | m + 1, s, h => by
    rw [riter]
    rcases rpass_count (n := n) l s with h2 | h2
    · rw [h2, riter_fix h2 m]; exact h2
    · exact riter_closed m _ (by rw [rpass_len]; omega)
theorem rpass_step {n : Int} : ∀ {l : List Chan} {s : List Bool} {c : Chan}, c ∈ l → chanIn n c = true → s.getD c.f.toNat false = true → c.t.toNat < s.length → (rpass n l s).getD c.t.toNat false = true
  | d :: l, s, c, hc, h1, h2, h3 => by
    show (rpass n l (rstep n s d)).getD c.t.toNat false = true
    rcases List.mem_cons.1 hc with rfl | hc
    · refine rpass_mono l ?_
      rw [rstep_set h1 h2, List.getD_eq_getElem?_getD, List.getElem?_set_self h3]
      rfl
    · exact rpass_step hc h1 (rstep_mono h2) (by rw [rstep_len]; exact h3)
/-- What is marked where one begins at a. -/
def reached (n : Int) (l : List Chan) (a : Int) : List Bool := riter n l n.toNat ((List.replicate n.toNat false).set a.toNat true)
theorem canReach_eq {n : Int} {l : List Chan} {a b : Int} (hn : inB n 1 20 = true) (ha : inB a 0 (n - 1) = true) (hb : inB b 0 (n - 1) = true) (hl : l.length ≤ 400) : canReach n l a b = (reached n l a).getD b.toNat false := by
  unfold canReach reached
  rw [hn, ha, hb]
  simp [hl]
theorem canReach_yes {n : Int} {l : List Chan} {a b : Int} (h : canReach n l a b = true) : inB n 1 20 = true ∧ inB a 0 (n - 1) = true ∧ inB b 0 (n - 1) = true ∧ l.length ≤ 400 ∧ (reached n l a).getD b.toNat false = true := by
  unfold canReach at h
  split at h
  · next hc =>
    simp only [Bool.and_eq_true, decide_eq_true_eq] at hc
    exact ⟨hc.1, hc.2.1, hc.2.2.1, hc.2.2.2, h⟩
  · cases h
theorem reached_len (n : Int) (l : List Chan) (a : Int) : (reached n l a).length = n.toNat := by unfold reached; rw [riter_len]; simp
theorem reached_self {n : Int} (l : List Chan) {a : Int} (ha : a.toNat < n.toNat) : (reached n l a).getD a.toNat false = true := by
  unfold reached
  refine riter_mono _ ?_
  rw [List.getD_eq_getElem?_getD, List.getElem?_set_self (by simpa using ha)]
  rfl
theorem reached_closed {n : Int} (l : List Chan) (a : Int) : rpass n l (reached n l a) = reached n l a := by
  unfold reached
  exact riter_closed _ _ (by simp)
theorem reach_self {n : Int} {l : List Chan} {a : Int} (hn : inB n 1 20 = true) (ha : inB a 0 (n - 1) = true) (hl : l.length ≤ 400) : canReach n l a a = true := by
  have h1 := inB_true.1 ha
  rw [canReach_eq hn ha ha hl]
  exact reached_self l (by omega)
theorem reach_step {n : Int} {l : List Chan} {a : Int} {c : Chan} (h : canReach n l a c.f = true) (hc : c ∈ l) (ht : inB c.t 0 (n - 1) = true) : canReach n l a c.t = true := by
  obtain ⟨hn, ha, hf, hl, hm⟩ := canReach_yes h
  have h1 := inB_true.1 ht
  rw [canReach_eq hn ha ht hl]
  rw [← reached_closed]
  exact rpass_step hc (by unfold chanIn; rw [hf, ht]; rfl) hm (by rw [reached_len]; omega)
/-- What holds at the beginning and is kept by each channel holds of all that is reached. -/
theorem reach_ind {n : Int} {l : List Chan} {a b : Int} (P : Nat → Prop) (h : canReach n l a b = true) (h0 : P a.toNat) (hs : ∀ c ∈ l, chanIn n c = true → P c.f.toNat → P c.t.toNat) : P b.toNat := by
  obtain ⟨hn, ha, hb, hl, hm⟩ := canReach_yes h
  have key : ∀ (s : List Bool), (∀ k, s.getD k false = true → P k) → ∀ (m : List Chan), (∀ c ∈ m, c ∈ l) → ∀ k, (rpass n m s).getD k false = true → P k := by
    intro s hP m
    induction m generalizing s with
    | nil => intro _ k hk; exact hP k hk
    | cons c m ih =>
      intro hsub k hk
      refine ih (rstep n s c) ?_ (fun d hd => hsub d (by simp [hd])) k hk
      intro j hj
      unfold rstep at hj
      split at hj
      · next hc =>
        rw [Bool.and_eq_true] at hc
        rw [List.getD_eq_getElem?_getD, List.getElem?_set] at hj
        by_cases e : c.t.toNat = j
        · subst e
          exact hs c (hsub c (by simp)) hc.1 (hP _ hc.2)
        · rw [if_neg e] at hj
          exact hP j (by rw [List.getD_eq_getElem?_getD]; exact hj)
      · exact hP j hj
  have key2 : ∀ (m : Nat) (s : List Bool), (∀ k, s.getD k false = true → P k) → ∀ k, (riter n l m s).getD k false = true → P k := by
    intro m
    induction m with
    | zero => intro s hP k hk; exact hP k hk
    | succ m ih =>
      intro s hP k hk
      rw [riter] at hk
      exact ih _ (key s hP l (fun _ h => h)) k hk
  refine key2 _ _ ?_ _ hm
  intro k hk
  rw [List.getD_eq_getElem?_getD, List.getElem?_set] at hk
  by_cases e : a.toNat = k
  · subst e; exact h0
  · rw [if_neg e] at hk
    rw [List.getElem?_replicate] at hk
    split at hk <;> simp at hk
theorem reach_trans {n : Int} {l : List Chan} {a b c : Int} (h : canReach n l a b = true) (k : canReach n l b c = true) : canReach n l a c = true := by
  obtain ⟨hn, ha, hb, hl, hm⟩ := canReach_yes h
  obtain ⟨_, _, hc, _, _⟩ := canReach_yes k
  have hc' := inB_true.1 hc
  have hb' := inB_true.1 hb
  have e : ((c.toNat : Nat) : Int) = c := by omega
  have := reach_ind (fun k => canReach n l a (k : Int) = true) k (by show canReach n l a ((b.toNat : Nat) : Int) = true; rw [show ((b.toNat : Nat) : Int) = b by omega]; exact h) (fun d hd hin hf => by
    unfold chanIn at hin
    rw [Bool.and_eq_true] at hin
    have h1 := inB_true.1 hin.1
    have h2 := inB_true.1 hin.2
    rw [show ((d.f.toNat : Nat) : Int) = d.f by omega] at hf
    rw [show ((d.t.toNat : Nat) : Int) = d.t by omega]
    exact reach_step hf hd hin.2)
  rw [e] at this
  exact this
theorem closePick_of {n : Int} {l m : List Chan} {i j : Nat} (h : canReach n l (i : Int) (j : Int) = canReach n m (i : Int) (j : Int)) : closePick n l i j = closePick n m i j := by
  unfold closePick
  rw [h]
/-- A closure that is closed again has nothing more. -/
theorem reach_closure {n : Int} {l : List Chan} (hl : l.length ≤ 400) (i j : Nat) : canReach n (closure n l) (i : Int) (j : Int) = canReach n l (i : Int) (j : Int) := by
  rw [Bool.eq_iff_iff]
  constructor
  · intro h
    obtain ⟨hn, ha, hb, _, _⟩ := canReach_yes h
    have := reach_ind (fun k => canReach n l (i : Int) (k : Int) = true) h (by
      show canReach n l (i : Int) (((i : Int).toNat : Nat) : Int) = true
      rw [Int.toNat_natCast]
      exact reach_self hn ha hl) (fun c hc hin hf => by
        obtain ⟨p, q, h1, h2, rfl, hne, hr⟩ := closure_mem hc
        dsimp only at hf ⊢
        rw [Int.toNat_natCast] at hf ⊢
        exact reach_trans hf hr)
    rw [Int.toNat_natCast] at this
    exact this
  · intro h
    obtain ⟨hn, ha, hb, _, _⟩ := canReach_yes h
    have hn' := inB_true.1 hn
    have ha' := inB_true.1 ha
    have hb' := inB_true.1 hb
    by_cases e : i = j
    · subst e
      exact reach_self hn ha (closure_len n l)
    · have hs : canReach n (closure n l) (i : Int) (i : Int) = true := reach_self hn ha (closure_len n l)
      have hm : (⟨(i : Int), (j : Int)⟩ : Chan) ∈ closure n l := by
        unfold closure
        rw [if_pos hn]
        unfold closeRows
        refine List.mem_flatMap.2 ⟨i, List.mem_range.2 (by omega), ?_⟩
        unfold closeRow
        refine List.mem_flatMap.2 ⟨j, List.mem_range.2 (by omega), ?_⟩
        rw [pick_yes e h]
        simp
      exact reach_step (c := ⟨(i : Int), (j : Int)⟩) hs hm hb
theorem closeRows_of {n : Int} {l m : List Chan} (h : ∀ i j : Nat, canReach n l (i : Int) (j : Int) = canReach n m (i : Int) (j : Int)) (k q : Nat) : closeRows n l k q = closeRows n m k q := by
  unfold closeRows closeRow
  have e : (fun i => (List.range q).flatMap (closePick n l i)) = (fun i => (List.range q).flatMap (closePick n m i)) := by
    funext i
    have : closePick n l i = closePick n m i := by funext j; exact closePick_of (h i j)
    rw [this]
  rw [e]
theorem closure_again {n : Int} {l : List Chan} (hl : l.length ≤ 400) : closure n (closure n l) = closure n l := by
  have h := reach_closure (n := n) hl
  unfold closure at h ⊢
  split
  · next hn =>
    rw [if_pos hn] at h
    exact closeRows_of h _ _
  · rfl
/-- Labels: what flows. -/
theorem flows_iff {a b : List Int} : flows a b = true ↔ labelOk a = true ∧ labelOk b = true ∧ ∀ i, i < 4 → a.getD i 0 ≤ b.getD i 0 := by
  unfold flows
  simp only [Bool.and_eq_true, List.all_eq_true, List.mem_range]
  constructor
  · rintro ⟨h1, h2, h3⟩
    exact ⟨h1, h2, fun i hi => by have := h3 i hi; unfold upAt at this; simpa using this⟩
  · rintro ⟨h1, h2, h3⟩
    exact ⟨h1, h2, fun i hi => by unfold upAt; simpa using h3 i hi⟩
theorem flows_refl {a : List Int} (h : labelOk a = true) : flows a a = true := flows_iff.2 ⟨h, h, fun _ _ => Int.le_refl _⟩
theorem flows_trans {a b c : List Int} (h : flows a b = true) (k : flows b c = true) : flows a c = true := by
  obtain ⟨h1, h2, h3⟩ := flows_iff.1 h
  obtain ⟨k1, k2, k3⟩ := flows_iff.1 k
  exact flows_iff.2 ⟨h1, k2, fun i hi => Int.le_trans (h3 i hi) (k3 i hi)⟩
theorem bootGo_label : ∀ {l : List Boot} {s : Amt}, bootGo s l = true → ∀ x ∈ l, labelOk x.lv = true
  | y :: l, s, h, x, hx => by
    rw [bootGo] at h
    simp only [Bool.and_eq_true] at h
    rcases List.mem_cons.1 hx with rfl | hx
    · exact h.2.1
    · exact bootGo_label h.2.2.2 x hx
theorem bootOk_label {l : List Boot} (h : bootOk l = true) {x : Boot} (hx : x ∈ l) : labelOk x.lv = true := by
  unfold bootOk at h
  rw [Bool.and_eq_true] at h
  exact bootGo_label h.1 x hx
def Plain (l : List Boot) : Prop := ∀ x ∈ l, x.own = []
theorem mayFlow_plain {o : Bool} {x y : Boot} (hx : x.own = []) (hy : y.own = []) : mayFlow o x y = flows x.lv y.lv := by
  unfold mayFlow
  cases o
  · rfl
  · rw [if_pos rfl, hx, hy, ← flows_nil, Bool.or_self]
theorem chPick_plain {l : List Boot} (h : Plain l) (o : Bool) (k j : Nat) : chPick o l k j = chPick false l k j := by
  unfold chPick
  split
  · next x y hx hy => rw [mayFlow_plain (h x (List.mem_of_getElem? hx)) (h y (List.mem_of_getElem? hy)), mayFlow_plain (h x (List.mem_of_getElem? hx)) (h y (List.mem_of_getElem? hy))]
  · rfl
theorem channels_plain {l : List Boot} (h : Plain l) : channels true l = channels false l := by
  unfold channels chRows chRow
  have e : (fun i => (List.range l.length).flatMap (chPick true l i)) = (fun i => (List.range l.length).flatMap (chPick false l i)) := by
    funext i
    have : chPick true l i = chPick false l i := by funext j; exact chPick_plain h true i j
    rw [this]
  rw [e]
theorem channels_mem {l : List Boot} (h : Plain l) {c : Chan} (hc : c ∈ channels true l) : ∃ (k j : Nat) (x y : Boot), c = ⟨(k : Int), (j : Int)⟩ ∧ l[k]? = some x ∧ l[j]? = some y ∧ flows x.lv y.lv = true := by
  unfold channels at hc
  split at hc
  · unfold chRows at hc
    obtain ⟨k, _, hc⟩ := List.mem_flatMap.1 hc
    unfold chRow at hc
    obtain ⟨j, _, hc⟩ := List.mem_flatMap.1 hc
    unfold chPick at hc
    split at hc
    · next x y hx hy =>
      split at hc
      · next hf =>
        simp at hc
        rw [mayFlow_plain (h x (List.mem_of_getElem? hx)) (h y (List.mem_of_getElem? hy))] at hf
        exact ⟨k, j, x, y, hc, hx, hy, hf.2⟩
      · cases hc
    · cases hc
  · cases hc
/-- By what may flow nothing is reached but where it may flow. -/
theorem reach_flows {l : List Boot} (hb : bootOk l = true) (h : Plain l) {i j : Nat} {x y : Boot} (hx : l[i]? = some x) (hy : l[j]? = some y) (hr : canReach (l.length : Int) (channels true l) (i : Int) (j : Int) = true) : flows x.lv y.lv = true := by
  have := reach_ind (fun k => ∀ z, l[k]? = some z → flows x.lv z.lv = true) hr (by
    rw [Int.toNat_natCast]
    intro z hz
    rw [hx] at hz
    cases hz
    exact flows_refl (bootOk_label hb (List.mem_of_getElem? hx))) (fun c hc _ hf => by
      obtain ⟨p, q, u, v, rfl, hu, hv, hfl⟩ := channels_mem h hc
      dsimp only at hf ⊢
      rw [Int.toNat_natCast] at hf ⊢
      intro z hz
      rw [hv] at hz
      cases hz
      exact flows_trans (hf u hu) hfl)
  rw [Int.toNat_natCast] at this
  exact this y hy
theorem leaks_none {l : List Boot} (hb : bootOk l = true) (h : Plain l) : leaks l = [] := by
  unfold leaks
  rw [List.filter_eq_nil_iff]
  intro c hc
  obtain ⟨i, j, h1, h2, rfl, _, hr⟩ := closure_mem hc
  obtain ⟨x, hx⟩ := some_at (l := l) (k := i) (by omega)
  obtain ⟨y, hy⟩ := some_at (l := l) (k := j) (by omega)
  rw [leakB_at hx hy, reach_flows hb h hx hy hr]
  decide
theorem closure_plain {l : List Boot} (hb : bootOk l = true) (h : Plain l) : closure (l.length : Int) (channels true l) = channels true l := by
  have hlen := bootOk_len hb
  have hn : inB (l.length : Int) 1 20 = true := inB_true.2 (by omega)
  have hcl := channels_len true l
  have hch : channels true l = chRows true l l.length := by unfold channels; rw [hb]; rfl
  unfold closure
  rw [if_pos hn, Int.toNat_natCast]
  conv => rhs; rw [hch]
  unfold closeRows chRows
  rw [List.flatMap_def, List.flatMap_def]
  congr 1
  apply List.map_congr_left
  intro i hi
  have hi' := List.mem_range.1 hi
  unfold closeRow chRow
  rw [List.flatMap_def, List.flatMap_def]
  congr 1
  apply List.map_congr_left
  intro j hj
  have hj' := List.mem_range.1 hj
  obtain ⟨x, hx⟩ := some_at (l := l) (k := i) hi'
  obtain ⟨y, hy⟩ := some_at (l := l) (k := j) hj'
  by_cases e : i = j
  · subst e; rw [pick_no (.inl rfl), chPick_same]
  · cases hf : flows x.lv y.lv
    · have hr : canReach (l.length : Int) (channels true l) (i : Int) (j : Int) = false := by
        cases hr : canReach (l.length : Int) (channels true l) (i : Int) (j : Int)
        · rfl
        · rw [reach_flows hb h hx hy hr] at hf; cases hf
      rw [pick_no (.inr hr), chPick_no hx hy (by rw [mayFlow_plain (h x (List.mem_of_getElem? hx)) (h y (List.mem_of_getElem? hy))]; exact hf)]
    · have hp := chPick_yes hx hy e (by rw [mayFlow_plain (o := true) (h x (List.mem_of_getElem? hx)) (h y (List.mem_of_getElem? hy))]; exact hf)
      have hm : (⟨(i : Int), (j : Int)⟩ : Chan) ∈ channels true l := by
        rw [hch]
        unfold chRows
        refine List.mem_flatMap.2 ⟨i, hi, ?_⟩
        unfold chRow
        refine List.mem_flatMap.2 ⟨j, hj, ?_⟩
        rw [hp]
        simp
      have hii : inB (i : Int) 0 ((l.length : Int) - 1) = true := inB_true.2 (by omega)
      have hjj : inB (j : Int) 0 ((l.length : Int) - 1) = true := inB_true.2 (by omega)
      have hr := reach_step (c := ⟨(i : Int), (j : Int)⟩) (reach_self hn hii (by omega)) hm hjj
      rw [pick_yes e hr, hp]

end Go.Proofs.Ytnchmenpgmlpdaa
