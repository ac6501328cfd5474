/- []Obj: markObjS. -/
import Derived.Test.YtnchmenpgmlpdaaThingsMix
import Derived.Deep.LoopGhost
namespace Go.Proofs.Ytnchmenpgmlpdaa
open Go.RowKit

set_option maxRecDepth 100000 in
set_option maxHeartbeats 8000000 in
theorem markObjS_any (v : Value) (base : Nat) (l : List Thing) (rs : List (List Value)) (hl : l.length ≤ 1048576) (hs : Short 1048576 l) (hq : qAt 1 l l.length ≤ 900000000000) (w : World) (hbase : base ≤ w.heap.size) (h : RowsOwn KThing w base v l.length l rs []) :
    Calls Try.prog 55 #[v, .int .i64 1] w fun e w' => e = .returned (.int .i64 (qAt 1 l l.length)) ∧ RowsOwn KMix w' base v l.length (mixList 1 l l.length) rs [] ∧ Below base w w' := by
  obtain ⟨pv, cv, rfl, _⟩ := owns_slice h.row
  have HW := hideP (ThingsOwn.mix h 1)
  have HS := hideP hs
  clear h hs
  go_enter Try.func55, Try.ntmps55
  go_wp2
  go_loopg [1, 5] (l.length + 1) (fun gk r i wr => ∃ (k : Nat) (q : Int), l.length < gk + k ∧ k ≤ l.length ∧ i = .int .i64 (k : Int) ∧ r = .int .i64 q ∧ 1 ≤ q ∧ q ≤ 900000000000 ∧ Hid (qAt 1 l k = q) ∧ Hid (RowsOwn KMix wr base (.slice pv l.length cv) l.length (mixList 1 l k) rs []) ∧ Hid (KeptP (fun q => base ≤ q) w wr))
  case atStart => exact ⟨0, 1, by omega, by omega, rfl, rfl, by omega, by omega, hideP (by unfold qAt; simp), HW, hideP (KeptP.refl _ _)⟩
  case round =>
    clear HW
    obtain ⟨k, q, hgk, hk, rfl, rfl, hq0, hq1, hqk, HW, HB⟩ := hrel
    by_cases hlt : k < l.length
    · obtain ⟨x, hx⟩ := some_at (l := l) (k := k) hlt
      have hm := mixList_get (q := 1) (k := k) hx
      rw [if_neg (Nat.lt_irrefl k)] at hm
      obtain ⟨vs, hv, ho⟩ := HW.out.at hm
      obtain ⟨g, cap, e, hg, hgw, hc, hf⟩ := HW.out.cell (by decide) hm hv
      have hoL : thingOwnL wr base x vs := ho
      obtain ⟨vl, vd, vq, rfl, hob⟩ := hoL
      obtain ⟨pl, ql, rfl, _⟩ := owns_slice hob.l
      obtain ⟨pd, qd, rfl, _⟩ := owns_slice hob.d
      obtain ⟨pq, qq, rfl, _⟩ := owns_slice hob.q
      cases e
      obtain ⟨⟨s1, s2, s3⟩, _⟩ := HS.out x (List.mem_of_getElem? hx)
      have hz : ∀ (j : Nat) (u : Value), (x.cells (.slice pl x.links.length ql) (.slice pd x.data.length qd) (.slice pq x.queue.length qq))[j]? = some u → wr.cell? ⟨g, k * 13 + j, none⟩ = some u := hc
      have g0 : wr.cell? ⟨g, k * 13, none⟩ = some (.int .i64 x.gen) := hz 0 _ rfl
      have f0 : wr.frozen? ⟨g, k * 13, none⟩ = false := hf _ (by show k * 13 < l.length * 13; omega)
      have g1 : wr.cell? ⟨g, k * 13 + 1, none⟩ = some (.int .i64 x.kind) := hz 1 _ rfl
      have f1 : wr.frozen? ⟨g, k * 13 + 1, none⟩ = false := hf _ (by show k * 13 + 1 < l.length * 13; omega)
      have g2 : wr.cell? ⟨g, k * 13 + 2, none⟩ = some (.int .i64 x.box) := hz 2 _ rfl
      have f2 : wr.frozen? ⟨g, k * 13 + 2, none⟩ = false := hf _ (by show k * 13 + 2 < l.length * 13; omega)
      have g3 : wr.cell? ⟨g, k * 13 + 3, none⟩ = some (.int .i64 x.res) := hz 3 _ rfl
      have f3 : wr.frozen? ⟨g, k * 13 + 3, none⟩ = false := hf _ (by show k * 13 + 3 < l.length * 13; omega)
      have g4 : wr.cell? ⟨g, k * 13 + 4, none⟩ = some (.int .i64 x.til) := hz 4 _ rfl
      have f4 : wr.frozen? ⟨g, k * 13 + 4, none⟩ = false := hf _ (by show k * 13 + 4 < l.length * 13; omega)
      have g5 : wr.cell? ⟨g, k * 13 + 5, none⟩ = some (.int .i64 x.pages) := hz 5 _ rfl
      have f5 : wr.frozen? ⟨g, k * 13 + 5, none⟩ = false := hf _ (by show k * 13 + 5 < l.length * 13; omega)
      have g6 : wr.cell? ⟨g, k * 13 + 6, none⟩ = some (.int .i64 x.wait) := hz 6 _ rfl
      have f6 : wr.frozen? ⟨g, k * 13 + 6, none⟩ = false := hf _ (by show k * 13 + 6 < l.length * 13; omega)
      have g7 : wr.cell? ⟨g, k * 13 + 7, none⟩ = some (.int .i64 x.got) := hz 7 _ rfl
      have f7 : wr.frozen? ⟨g, k * 13 + 7, none⟩ = false := hf _ (by show k * 13 + 7 < l.length * 13; omega)
      have g8 : wr.cell? ⟨g, k * 13 + 8, none⟩ = some (.int .i64 x.ran) := hz 8 _ rfl
      have f8 : wr.frozen? ⟨g, k * 13 + 8, none⟩ = false := hf _ (by show k * 13 + 8 < l.length * 13; omega)
      have g9 : wr.cell? ⟨g, k * 13 + 9, none⟩ = some (.bool x.mark) := hz 9 _ rfl
      have f9 : wr.frozen? ⟨g, k * 13 + 9, none⟩ = false := hf _ (by show k * 13 + 9 < l.length * 13; omega)
      have g10 : wr.cell? ⟨g, k * 13 + 10, none⟩ = some (.slice pl x.links.length ql) := hz 10 _ rfl
      have f10 : wr.frozen? ⟨g, k * 13 + 10, none⟩ = false := hf _ (by show k * 13 + 10 < l.length * 13; omega)
      have g11 : wr.cell? ⟨g, k * 13 + 11, none⟩ = some (.slice pd x.data.length qd) := hz 11 _ rfl
      have f11 : wr.frozen? ⟨g, k * 13 + 11, none⟩ = false := hf _ (by show k * 13 + 11 < l.length * 13; omega)
      have g12 : wr.cell? ⟨g, k * 13 + 12, none⟩ = some (.slice pq x.queue.length qq) := hz 12 _ rfl
      have f12 : wr.frozen? ⟨g, k * 13 + 12, none⟩ = false := hf _ (by show k * 13 + 12 < l.length * 13; omega)
      have k0 : (0 : Int) ≤ (k : Int) := by omega
      have k1 : (k : Int) < (l.length : Int) := by omega
      have MN : ∀ n, mine (.slice pl x.links.length ql) (.slice pd x.data.length qd) (.slice pq x.queue.length qq) n → n ≠ g := fun n hn e => HW.out.off g rfl k _ hv (by rw [← e]; exact mine3.2 hn)
      have HR := hideP (row_marked (q := q) HW.out hx hv)
      have K1 : KeptP (fun q => q = g) wr (setCells wr g (k * 13) (marks10 q)) := KeptP.stores _
      have HO := hideP (hob.kept K1 (fun n hn e => MN n hn e))
      have K1 := hideP K1
      have HX := hideP hx
      have HM := hideP hm
      have HV := hideP hv
      have OB := hideP hob
      have HC11 : Hid ((setCells wr g (k * 13) (marks10 q)).cell? ⟨g, k * 13 + 11, none⟩ = some (.slice pd x.data.length qd)) := hideP ((cell_setCells_over (by rw [marks10_len]; omega)).trans g11)
      have HC12 : Hid ((setCells wr g (k * 13) (marks10 q)).cell? ⟨g, k * 13 + 12, none⟩ = some (.slice pq x.queue.length qq)) := hideP ((cell_setCells_over (by rw [marks10_len]; omega)).trans g12)
      have hz1 : (setCells wr g (k * 13) (marks10 q)).heap.size = wr.heap.size := size_setCells _ _ _
      clear hx hm hv hob hc hf hz ho
      go_wp2_with fail
      refine (markIntS_any _ _ base _ (q + 1 + 1 + 1 + 1 + 1 + 1 + 1 + 1 + 1 + 1) (by omega) s1 _ HO.out.l).mono ?_
      rintro e w2 ⟨rfl, ho2, hg2⟩
      have K2 := KeptP.of_grown hg2
      have D2 := hideP (K2.owns HO.out.d (fun n e e2 => HO.out.ld n e2 e))
      have E2 := hideP (K2.owns HO.out.q (fun n e e2 => HO.out.lq n e2 e))
      have HR2 := hideP (K2.owns HR.out (fun n e e2 => MN n (.inl e2) (by cases e; rfl)))
      have L2 := hideP ho2
      have g11 : w2.cell? ⟨g, k * 13 + 11, none⟩ = some (.slice pd x.data.length qd) := (cell_of_block (K2.block g (by rw [hz1]; exact hgw) (fun e2 => MN g (.inl e2) rfl)) _).trans HC11.out
      have g12 : w2.cell? ⟨g, k * 13 + 12, none⟩ = some (.slice pq x.queue.length qq) := (cell_of_block (K2.block g (by rw [hz1]; exact hgw) (fun e2 => MN g (.inl e2) rfl)) _).trans HC12.out
      have KA := hideP K2
      have hzA := hg2.size
      clear ho2 hg2 K2 g0 g1 g2 g3 g4 g5 g6 g7 g8 g9 g10 f0 f1 f2 f3 f4 f5 f6 f7 f8 f9 f10 f11 f12
      go_wp2_with fail
      refine (markIntS_any _ _ base _ (q + 1 + 1 + 1 + 1 + 1 + 1 + 1 + 1 + 1 + 1 + (x.links.length : Int)) (by omega) s2 _ D2.out).mono ?_
      rintro e w3 ⟨rfl, ho3, hg3⟩
      have K3 := KeptP.of_grown hg3
      have E3 := hideP (K3.owns E2.out (fun n e e2 => OB.out.dq n e2 e))
      have L3 := hideP (K3.owns L2.out (fun n e e2 => OB.out.ld n e e2))
      have HR3 := hideP (K3.owns HR2.out (fun n e e2 => MN n (.inr (.inl e2)) (by cases e; rfl)))
      have D3 := hideP ho3
      have g12 : w3.cell? ⟨g, k * 13 + 12, none⟩ = some (.slice pq x.queue.length qq) := (cell_of_block (K3.block g (by omega) (fun e2 => MN g (.inr (.inl e2)) rfl)) _).trans g12
      have KB := hideP K3
      have hzB := hg3.size
      clear ho3 hg3 K3 g11 HR2 L2 E2 D2
      go_wp2_with fail
      refine (markMsgS_any _ _ base _ (q + 1 + 1 + 1 + 1 + 1 + 1 + 1 + 1 + 1 + 1 + (x.links.length : Int) + (x.data.length : Int)) (by omega) s3 _ E3.out).mono ?_
      rintro e w4 ⟨rfl, ho4, hg4⟩
      have K4 := KeptP.of_grown hg4
      have L4 := K4.owns L3.out (fun n e e2 => OB.out.lq n e e2)
      have D4 := K4.owns D3.out (fun n e e2 => OB.out.dq n e e2)
      have HR4 := K4.owns HR3.out (fun n e e2 => MN n (.inr (.inr e2)) (by cases e; rfl))
      have KALL : KeptP (fun n => n = g ∨ mine (.slice pl x.links.length ql) (.slice pd x.data.length qd) (.slice pq x.queue.length qq) n) wr w4 :=
        ((K1.out.mono (fun n _ e => .inl e)).trans (KA.out.mono (fun n _ e => .inr (.inl e)))).trans ((KB.out.mono (fun n _ e => .inr (.inr (.inl e)))).trans (K4.mono (fun n _ e => .inr (.inr (.inr e)))))
      have HT := hideP (HW.out.turn (x' := (x, some q)) HM.out HV.out HR4 ⟨_, _, _, rfl, L4, D4, ho4⟩ KALL (fun i us hi hu n hn e => by
        rcases e with e | e
        · exact HW.out.off g rfl i us hu (e ▸ hn)
        · exact HW.out.rise.ne hi hu HV.out hn (mine3.2 e)))
      have HT : Hid (RowsOwn KMix w4 base (.slice (some ⟨g, 0, none⟩) l.length cv) l.length (mixList 1 l (k + 1)) rs []) := hideP (by rw [mixList_next HX.out, hqk.out]; exact HT.out)
      have HB4 := hideP (HB.out.trans (KALL.mono (fun n hn e => by
        rcases e with e | e
        · omega
        · exact (OB.out.lt e).1)))
      have HQ : Hid (qAt 1 l (k + 1) = q + 1 + 1 + 1 + 1 + 1 + 1 + 1 + 1 + 1 + 1 + (x.links.length : Int) + (x.data.length : Int) + ((x.queue.length * 2 : Nat) : Int)) := hideP (by rw [qAt_succ HX.out, hqk.out]; unfold thingMarks; omega)
      have hqn := (qAt_le 1 l (k + 1)).2
      have hqm : q + 1 + 1 + 1 + 1 + 1 + 1 + 1 + 1 + 1 + 1 + (x.links.length : Int) + (x.data.length : Int) + ((x.queue.length * 2 : Nat) : Int) ≤ 900000000000 := by rw [HQ.out] at hqn; omega
      clear ho4 hg4 K4 L4 D4 HR4 KALL HW HB HR HO hqk hqn L3 D3 E3 HR3 KA KB K1 OB
      go_wp2
      go_roundg (gk - 1)
      case measure => omega
      case rel => exact ⟨k + 1, _, by omega, by omega, by go_num, rfl, by omega, hqm, HQ, HT, HB4⟩
    · have hkl : k = l.length := by omega
      have HT : Hid (RowsOwn KMix wr base (.slice pv l.length cv) l.length (mixList 1 l l.length) rs []) := hideP (hkl ▸ HW.out)
      have HQ : Hid (qAt 1 l l.length = q) := hideP (hkl ▸ hqk.out)
      have d1 : ¬ ((k : Int) < (l.length : Int)) := by omega
      clear hkl HW hqk
      go_wp2
      go_ret
      refine ⟨ret_int HQ.out.symm, HT.out, ?_⟩
      exact HB.out.below hbase (fun q e => e)

end Go.Proofs.Ytnchmenpgmlpdaa
