/- []Obj: markObjS from any number on. -/
import Derived.Test.YtpiaahkfnefplaaThingsMix
import Derived.Test.YtpiaahkfnefplaaPartPure
import Derived.Deep.LoopGhost
namespace Go.Proofs.Ytpiaahkfnefplaa
open Go.RowKit

theorem row_markedQ {q0 : Int} {w : World} {base g cap n k : Nat} {q : Int} {l : List Thing} {rs : List (List Value)} {x : Thing} {vl vd vq : Value} (h : RowsOwn KMix w base (.slice (some ⟨g, 0, none⟩) n cap) n (mixList q0 l k) rs []) (hx : l[k]? = some x) (hv : rs[k]? = some [vl, vd, vq]) :
    (setCells w g (k * 13) (marks10 q)).ownsRow base 55 13 (.slice (some ⟨g, 0, none⟩) n cap) n (flatC KMix ((mixList q0 l k).set k (x, some q)) rs) := by
  have hm := mixList_get (q := q0) (k := k) hx
  rw [if_neg (Nat.lt_irrefl k)] at hm
  have he : ∀ (i : Nat) (y : Thing × Option Int) (us : List Value), (mixList q0 l k)[i]? = some y → rs[i]? = some us → (KMix.cells y us).length = KMix.s := fun i y us hy hu => KMix.len (h.el i y us hy hu)
  have hl := flatC_len KMix h.len he
  have hlen : (mixList q0 l k).length = l.length := mixList_len _ _ _
  have hk := (List.getElem?_eq_some_iff.1 hx).1
  have hs : KMix.s = 13 := rfl
  rw [hlen, hs] at hl
  have hmul : (k + 1) * 13 ≤ l.length * 13 := Nat.mul_le_mul_right _ hk
  have h1 := owns_setCells (marks10 q) (k * 13) h.row (by rw [List.append_nil, hl, marks10_len]; omega)
  rw [List.append_nil] at h1
  have hset := flatC_set (K := KMix) (x' := (x, some q)) h.len he hm hv
  have hsame := flatC_set (K := KMix) (x' := (x, none)) h.len he hm hv
  have hid : (mixList q0 l k).set k (x, none) = mixList q0 l k := by
    obtain ⟨hk', e⟩ := List.getElem?_eq_some_iff.1 hm
    rw [← e, List.set_getElem_self]
  rw [hid, hs] at hsame
  rw [hs] at hset
  rw [hset]
  have hd : (flatC KMix (mixList q0 l k) rs).drop (k * 13 + 10) = [vl, vd, vq] ++ (flatC KMix (mixList q0 l k) rs).drop ((k + 1) * 13) := by
    have e0 : ((flatC KMix (mixList q0 l k) rs).take (k * 13)).length = k * 13 := by rw [List.length_take, hl]; omega
    conv => lhs; rw [hsame]
    rw [List.append_assoc, List.drop_append, e0, List.drop_of_length_le (by rw [e0]; omega), List.nil_append, show k * 13 + 10 - k * 13 = 10 by omega]
    rfl
  rw [show k * 13 + (marks10 q).length = k * 13 + 10 from rfl, hd] at h1
  have e9 : KMix.cells (x, some q) [vl, vd, vq] = marks10 q ++ [vl, vd, vq] := rfl
  rw [e9]
  simp only [List.append_assoc] at h1 ⊢
  exact h1
set_option maxRecDepth 100000 in
set_option maxHeartbeats 8000000 in
theorem markObjS_q (q0 : Int) (h0 : 0 ≤ q0) (v : Value) (base : Nat) (l : List Thing) (rs : List (List Value)) (hl : l.length ≤ 1048576) (hs : Short 1048576 l) (hq : qAt q0 l l.length ≤ 900000000000) (w : World) (h : RowsOwn KThing w base v l.length l rs []) :
    Calls Try.prog 32 #[v, .int .i64 q0] w fun e w' => e = .returned (.int .i64 (qAt q0 l l.length)) ∧ KeptP (fun q => mineL (v :: rs.flatten) q) w w' := by
  obtain ⟨pv, cv, rfl, _⟩ := owns_slice h.row
  have HW := hideP (ThingsOwn.mix h q0)
  have HS := hideP hs
  clear h hs
  go_enter Try.func32, Try.ntmps32
  go_wp2
  go_loopg [1, 5] (l.length + 1) (fun gk r i wr => ∃ (k : Nat) (q : Int), l.length < gk + k ∧ k ≤ l.length ∧ i = .int .i64 (k : Int) ∧ r = .int .i64 q ∧ 0 ≤ q ∧ q ≤ 900000000000 ∧ Hid (qAt q0 l k = q) ∧ Hid (RowsOwn KMix wr base (.slice pv l.length cv) l.length (mixList q0 l k) rs []) ∧ Hid (KeptP (fun q => mineL (.slice pv l.length cv :: rs.flatten) q) w wr))
  case atStart => exact ⟨0, q0, by omega, by omega, rfl, rfl, h0, by have := qAt_le q0 l 0; have := this.1; omega, hideP (by unfold qAt; simp), HW, hideP (KeptP.refl _ _)⟩
  case round =>
    clear HW
    obtain ⟨k, q, hgk, hk, rfl, rfl, hq0, hq1, hqk, HW, HB⟩ := hrel
    by_cases hlt : k < l.length
    · obtain ⟨x, hx⟩ := some_at (l := l) (k := k) hlt
      have hm := mixList_get (q := q0) (k := k) hx
      rw [if_neg (Nat.lt_irrefl k)] at hm
      obtain ⟨vs, hv, ho⟩ := HW.out.at hm
      obtain ⟨g, cap, e, hg, hgw, hc, hf⟩ := HW.out.cell (by decide) hm hv
      have hoL : thingOwnL wr base x vs := ho
      obtain ⟨vl, vd, vq, rfl, hob⟩ := hoL
      obtain ⟨pl, ql, rfl, _⟩ := owns_slice hob.l
      obtain ⟨pd, qd, rfl, _⟩ := owns_slice hob.d
      obtain ⟨pq, qq, rfl, _⟩ := owns_slice hob.q
      cases e
      obtain ⟨⟨s1, s2, s3⟩, _⟩ := HS.out x (List.mem_of_getElem? hx)
      have hz : ∀ (j : Nat) (u : Value), (x.cells (.slice pl x.links.length ql) (.slice pd x.data.length qd) (.slice pq x.queue.length qq))[j]? = some u → wr.cell? ⟨g, k * 13 + j, none⟩ = some u := hc
      have g0 : wr.cell? ⟨g, k * 13, none⟩ = some (.int .i64 x.gen) := hz 0 _ rfl
      have f0 : wr.frozen? ⟨g, k * 13, none⟩ = false := hf _ (by show k * 13 < l.length * 13; omega)
      have g1 : wr.cell? ⟨g, k * 13 + 1, none⟩ = some (.int .i64 x.kind) := hz 1 _ rfl
      have f1 : wr.frozen? ⟨g, k * 13 + 1, none⟩ = false := hf _ (by show k * 13 + 1 < l.length * 13; omega)
      have g2 : wr.cell? ⟨g, k * 13 + 2, none⟩ = some (.int .i64 x.box) := hz 2 _ rfl
      have f2 : wr.frozen? ⟨g, k * 13 + 2, none⟩ = false := hf _ (by show k * 13 + 2 < l.length * 13; omega)
      have g3 : wr.cell? ⟨g, k * 13 + 3, none⟩ = some (.int .i64 x.res) := hz 3 _ rfl
      have f3 : wr.frozen? ⟨g, k * 13 + 3, none⟩ = false := hf _ (by show k * 13 + 3 < l.length * 13; omega)
      have g4 : wr.cell? ⟨g, k * 13 + 4, none⟩ = some (.int .i64 x.til) := hz 4 _ rfl
      have f4 : wr.frozen? ⟨g, k * 13 + 4, none⟩ = false := hf _ (by show k * 13 + 4 < l.length * 13; omega)
      have g5 : wr.cell? ⟨g, k * 13 + 5, none⟩ = some (.int .i64 x.pages) := hz 5 _ rfl
      have f5 : wr.frozen? ⟨g, k * 13 + 5, none⟩ = false := hf _ (by show k * 13 + 5 < l.length * 13; omega)
      have g6 : wr.cell? ⟨g, k * 13 + 6, none⟩ = some (.int .i64 x.wait) := hz 6 _ rfl
      have f6 : wr.frozen? ⟨g, k * 13 + 6, none⟩ = false := hf _ (by show k * 13 + 6 < l.length * 13; omega)
      have g7 : wr.cell? ⟨g, k * 13 + 7, none⟩ = some (.int .i64 x.got) := hz 7 _ rfl
      have f7 : wr.frozen? ⟨g, k * 13 + 7, none⟩ = false := hf _ (by show k * 13 + 7 < l.length * 13; omega)
      have g8 : wr.cell? ⟨g, k * 13 + 8, none⟩ = some (.int .i64 x.ran) := hz 8 _ rfl
      have f8 : wr.frozen? ⟨g, k * 13 + 8, none⟩ = false := hf _ (by show k * 13 + 8 < l.length * 13; omega)
      have g9 : wr.cell? ⟨g, k * 13 + 9, none⟩ = some (.bool x.mark) := hz 9 _ rfl
      have f9 : wr.frozen? ⟨g, k * 13 + 9, none⟩ = false := hf _ (by show k * 13 + 9 < l.length * 13; omega)
      have g10 : wr.cell? ⟨g, k * 13 + 10, none⟩ = some (.slice pl x.links.length ql) := hz 10 _ rfl
      have f10 : wr.frozen? ⟨g, k * 13 + 10, none⟩ = false := hf _ (by show k * 13 + 10 < l.length * 13; omega)
      have g11 : wr.cell? ⟨g, k * 13 + 11, none⟩ = some (.slice pd x.data.length qd) := hz 11 _ rfl
      have f11 : wr.frozen? ⟨g, k * 13 + 11, none⟩ = false := hf _ (by show k * 13 + 11 < l.length * 13; omega)
      have g12 : wr.cell? ⟨g, k * 13 + 12, none⟩ = some (.slice pq x.queue.length qq) := hz 12 _ rfl
      have f12 : wr.frozen? ⟨g, k * 13 + 12, none⟩ = false := hf _ (by show k * 13 + 12 < l.length * 13; omega)
      have k0 : (0 : Int) ≤ (k : Int) := by omega
      have k1 : (k : Int) < (l.length : Int) := by omega
      have MN : ∀ n, mine (.slice pl x.links.length ql) (.slice pd x.data.length qd) (.slice pq x.queue.length qq) n → n ≠ g := fun n hn e => HW.out.off g rfl k _ hv (by rw [← e]; exact mine3.2 hn)
      have HR := hideP (row_markedQ (q := q) HW.out hx hv)
      have K1 : KeptP (fun q => q = g) wr (setCells wr g (k * 13) (marks10 q)) := KeptP.stores _
      have HO := hideP (hob.kept K1 (fun n hn e => MN n hn e))
      have K1 := hideP K1
      have HX := hideP hx
      have HM := hideP hm
      have HV := hideP hv
      have OB := hideP hob
      have HC11 : Hid ((setCells wr g (k * 13) (marks10 q)).cell? ⟨g, k * 13 + 11, none⟩ = some (.slice pd x.data.length qd)) := hideP ((cell_setCells_over (by rw [marks10_len]; omega)).trans g11)
      have HC12 : Hid ((setCells wr g (k * 13) (marks10 q)).cell? ⟨g, k * 13 + 12, none⟩ = some (.slice pq x.queue.length qq)) := hideP ((cell_setCells_over (by rw [marks10_len]; omega)).trans g12)
      have hz1 : (setCells wr g (k * 13) (marks10 q)).heap.size = wr.heap.size := size_setCells _ _ _
      clear hx hm hv hob hc hf hz ho
      go_wp2_with fail
      refine (markIntS_any _ _ base _ (q + 1 + 1 + 1 + 1 + 1 + 1 + 1 + 1 + 1 + 1) (by omega) s1 _ HO.out.l).mono ?_
      rintro e w2 ⟨rfl, ho2, hg2⟩
      have K2 := KeptP.of_grown hg2
      have D2 := hideP (K2.owns HO.out.d (fun n e e2 => HO.out.ld n e2 e))
      have E2 := hideP (K2.owns HO.out.q (fun n e e2 => HO.out.lq n e2 e))
      have HR2 := hideP (K2.owns HR.out (fun n e e2 => MN n (.inl e2) (by cases e; rfl)))
      have L2 := hideP ho2
      have g11 : w2.cell? ⟨g, k * 13 + 11, none⟩ = some (.slice pd x.data.length qd) := (cell_of_block (K2.block g (by rw [hz1]; exact hgw) (fun e2 => MN g (.inl e2) rfl)) _).trans HC11.out
      have g12 : w2.cell? ⟨g, k * 13 + 12, none⟩ = some (.slice pq x.queue.length qq) := (cell_of_block (K2.block g (by rw [hz1]; exact hgw) (fun e2 => MN g (.inl e2) rfl)) _).trans HC12.out
      have KA := hideP K2
      have hzA := hg2.size
      clear ho2 hg2 K2 g0 g1 g2 g3 g4 g5 g6 g7 g8 g9 g10 f0 f1 f2 f3 f4 f5 f6 f7 f8 f9 f10 f11 f12
      go_wp2_with fail
      refine (markIntS_any _ _ base _ (q + 1 + 1 + 1 + 1 + 1 + 1 + 1 + 1 + 1 + 1 + (x.links.length : Int)) (by omega) s2 _ D2.out).mono ?_
      rintro e w3 ⟨rfl, ho3, hg3⟩
      have K3 := KeptP.of_grown hg3
      have E3 := hideP (K3.owns E2.out (fun n e e2 => OB.out.dq n e2 e))
      have L3 := hideP (K3.owns L2.out (fun n e e2 => OB.out.ld n e e2))
      have HR3 := hideP (K3.owns HR2.out (fun n e e2 => MN n (.inr (.inl e2)) (by cases e; rfl)))
      have D3 := hideP ho3
      have g12 : w3.cell? ⟨g, k * 13 + 12, none⟩ = some (.slice pq x.queue.length qq) := (cell_of_block (K3.block g (by omega) (fun e2 => MN g (.inr (.inl e2)) rfl)) _).trans g12
      have KB := hideP K3
      have hzB := hg3.size
      clear ho3 hg3 K3 g11 HR2 L2 E2 D2
      go_wp2_with fail
      refine (markMsgS_any _ _ base _ (q + 1 + 1 + 1 + 1 + 1 + 1 + 1 + 1 + 1 + 1 + (x.links.length : Int) + (x.data.length : Int)) (by omega) s3 _ E3.out).mono ?_
      rintro e w4 ⟨rfl, ho4, hg4⟩
      have K4 := KeptP.of_grown hg4
      have L4 := K4.owns L3.out (fun n e e2 => OB.out.lq n e e2)
      have D4 := K4.owns D3.out (fun n e e2 => OB.out.dq n e e2)
      have HR4 := K4.owns HR3.out (fun n e e2 => MN n (.inr (.inr e2)) (by cases e; rfl))
      have KALL : KeptP (fun n => n = g ∨ mine (.slice pl x.links.length ql) (.slice pd x.data.length qd) (.slice pq x.queue.length qq) n) wr w4 :=
        ((K1.out.mono (fun n _ e => .inl e)).trans (KA.out.mono (fun n _ e => .inr (.inl e)))).trans ((KB.out.mono (fun n _ e => .inr (.inr (.inl e)))).trans (K4.mono (fun n _ e => .inr (.inr (.inr e)))))
      have HT := hideP (HW.out.turn (x' := (x, some q)) HM.out HV.out HR4 ⟨_, _, _, rfl, L4, D4, ho4⟩ KALL (fun i us hi hu n hn e => by
        rcases e with e | e
        · exact HW.out.off g rfl i us hu (e ▸ hn)
        · exact HW.out.rise.ne hi hu HV.out hn (mine3.2 e)))
      have HT : Hid (RowsOwn KMix w4 base (.slice (some ⟨g, 0, none⟩) l.length cv) l.length (mixList q0 l (k + 1)) rs []) := hideP (by rw [mixList_next HX.out, hqk.out]; exact HT.out)
      have HB4 := hideP (HB.out.trans (KALL.mono (fun n hn e => by
        rcases e with e | e
        · exact mineC.2 (.inl (by subst e; rfl))
        · exact mineC.2 (.inr (mineF.2 ⟨_, List.mem_of_getElem? HV.out, mine3.2 e⟩)))))
      have HQ : Hid (qAt q0 l (k + 1) = q + 1 + 1 + 1 + 1 + 1 + 1 + 1 + 1 + 1 + 1 + (x.links.length : Int) + (x.data.length : Int) + ((x.queue.length * 2 : Nat) : Int)) := hideP (by rw [qAt_succ HX.out, hqk.out]; unfold thingMarks; omega)
      have hqn := (qAt_le q0 l (k + 1)).2
      have hqm : q + 1 + 1 + 1 + 1 + 1 + 1 + 1 + 1 + 1 + 1 + (x.links.length : Int) + (x.data.length : Int) + ((x.queue.length * 2 : Nat) : Int) ≤ 900000000000 := by rw [HQ.out] at hqn; omega
      clear ho4 hg4 K4 L4 D4 HR4 KALL HW HB HR HO hqk hqn L3 D3 E3 HR3 KA KB K1 OB
      go_wp2
      go_roundg (gk - 1)
      case measure => omega
      case rel => exact ⟨k + 1, _, by omega, by omega, by go_num, rfl, by omega, hqm, HQ, HT, HB4⟩
    · have hkl : k = l.length := by omega
      have HT : Hid (RowsOwn KMix wr base (.slice pv l.length cv) l.length (mixList q0 l l.length) rs []) := hideP (hkl ▸ HW.out)
      have HQ : Hid (qAt q0 l l.length = q) := hideP (hkl ▸ hqk.out)
      have d1 : ¬ ((k : Int) < (l.length : Int)) := by omega
      clear hkl HW hqk
      go_wp2
      go_ret
      exact ⟨ret_int HQ.out.symm, HB.out⟩

end Go.Proofs.Ytpiaahkfnefplaa
