/- l8Obj, l8Copy, ArenaNew of the reference. -/
import Derived.Test.YtabbncoihmhocaaThingS
import Derived.Test.YtabbncoihmhocaaThingsTo
import Derived.Test.YtabbncoihmhocaaAppAt
import Derived.Test.YtabbncoihmhocaaKeep
import Derived.Deep.DeepCutAuto
import Derived.Deep.LoopGhost
namespace Go.Proofs.Ytabbncoihmhocaa
open Go.RowKit

set_option maxRecDepth 100000 in
set_option maxHeartbeats 4000000 in
theorem l8Obj_any (o : Thing) (vl vd vq : Value) (hl : o.links.length ≤ 1048576) (hd : o.data.length ≤ 1048576) (hq : o.queue.length ≤ 1048576) (w : World) (h : ThIs w o vl vd vq) :
    Calls Try.prog 77 #[.agg #[.int .i64 o.gen, .int .i64 o.kind, .int .i64 o.box, .int .i64 o.res, .int .i64 o.til, .int .i64 o.pages, .int .i64 o.wait, .int .i64 o.got, .int .i64 o.ran, .bool o.mark, vl, vd, vq]] w fun e w' => ∃ ul ud uq, e = .returned (.agg #[.int .i64 o.gen, .int .i64 o.kind, .int .i64 o.box, .int .i64 o.res, .int .i64 o.til, .int .i64 o.pages, .int .i64 o.wait, .int .i64 o.got, .int .i64 o.ran, .bool o.mark, ul, ud, uq]) ∧ RI w' w.heap.size ul o.links ∧ RI w' w.heap.size ud o.data ∧ RM w' w.heap.size uq o.queue ∧ (∀ q, ul.ownBlock = some q → ud.ownBlock ≠ some q) ∧ Below w.heap.size w w' := by
  obtain ⟨⟨al, cl, rfl, hcl, hrl⟩, ⟨ad, cd, rfl, hcd, hrd⟩, ⟨aq, cq, rfl, hcq, hrq⟩⟩ := h
  obtain ⟨i0, hi, hz0, hz1, hz2⟩ := info_parts Try.infoIntB
  obtain ⟨j0, hj, hy0, hy1, hy2⟩ := info_parts Try.infoMsg
  go_enter Try.func77, Try.ntmps77
  go_upto_region 1 with fail
  obtain ⟨w0, hw0⟩ : ∃ w0, w0 = (w.alloc (.cells #[.int .i64 o.gen, .int .i64 o.kind, .int .i64 o.box, .int .i64 o.res, .int .i64 o.til, .int .i64 o.pages, .int .i64 o.wait, .int .i64 o.got, .int .i64 o.ran, .bool o.mark, .slice al o.links.length cl, .slice ad o.data.length cd, .slice aq o.queue.length cq] 34)).alloc (.cells #[.int .i64 0, .int .i64 0, .int .i64 0, .int .i64 0, .int .i64 0, .int .i64 0, .int .i64 0, .int .i64 0, .int .i64 0, .bool false, .slice none 0 0, .slice none 0 0, .slice none 0 0] 34) := ⟨_, rfl⟩
  have B0 : Hid (Blk w0 w.heap.size 34 _) := hideP (by rw [hw0]; exact (Blk.new w #[.int .i64 o.gen, .int .i64 o.kind, .int .i64 o.box, .int .i64 o.res, .int .i64 o.til, .int .i64 o.pages, .int .i64 o.wait, .int .i64 o.got, .int .i64 o.ran, .bool o.mark, .slice al o.links.length cl, .slice ad o.data.length cd, .slice aq o.queue.length cq] 34).alloc _)
  have R0 : Hid (Blk w0 (w.heap.size + 1) 34 _) := hideP (by rw [hw0]; exact Blk.new' #[.int .i64 0, .int .i64 0, .int .i64 0, .int .i64 0, .int .i64 0, .int .i64 0, .int .i64 0, .int .i64 0, .int .i64 0, .bool false, .slice none 0 0, .slice none 0 0, .slice none 0 0] 34 (by simp))
  have HB0 : Hid (Below w.heap.size w w0) := hideP (by rw [hw0]; exact below_a2 _ _ _)
  rw [← hw0]
  clear hw0
  have ca1 : w0.cell? ⟨w.heap.size, 10, none⟩ = some (.slice al o.links.length cl) := (B0.out.cell 10).trans rfl
  have fa1 : w0.frozen? ⟨w.heap.size, 10, none⟩ = false := B0.out.frozen 10
  have ce1 := cell_alloc_keepB ca1 (.cells #[] 3)
  go_wp2_with (at_builtin; refine wpList_append_rd _ rfl _ _ 31 rfl w0.heap.size 3 i0 (.int .i64 0) 1 8 Try.underlying31 hi hz0 hz1 hz2 rfl (by decide) _ 0 [] rfl (owns_lit (Nat.le_refl _) rfl (by decide) rfl rfl) _ o.links.length _ (icell o.links) rfl (by simp [icell]) ((hrl.below HB0.out).below (below_a1 _ _)) ?ca1 ?cb1 ?cc1 ?cd1 ?_)
  case ca1 => simp [icell, Value.oneCell']
  case cb1 => unfold maxLen; omega
  case cc1 => omega
  try case cd1 => simp
  intro v1 x1 ho hg
  obtain ⟨p1, q1, rfl, _⟩ := owns_slice ho
  try rw [List.nil_append] at ho
  have hb : Below w0.heap.size w0 x1 := Below.grown (below_a1 w0 _) hg (by simp) (fun q e => by cases e; exact Nat.le_refl _)
  have cb1 : x1.cell? ⟨w.heap.size, 10, none⟩ = some (.slice al o.links.length cl) := ((B0.out.below hb).cell 10).trans rfl
  have fb1 : x1.frozen? ⟨w.heap.size, 10, none⟩ = false := (B0.out.below hb).frozen 10
  have hBn : Blk x1 w.heap.size 34 _ := B0.out.below hb
  have hBs := hBn.set 10 (.slice p1 o.links.length q1)
  have hRs := (R0.out.below hb).other (g' := w.heap.size) 10 (.slice p1 o.links.length q1) (by omega)
  have hos : (x1.setCell ⟨w.heap.size, 10, none⟩ (.slice p1 o.links.length q1)).ownsRow w.heap.size 3 1 (.slice p1 o.links.length q1) o.links.length (icell o.links) := (keptSet x1 w.heap.size 10 _).owns (owns_mono ho HB0.out.size) (rowNe ho hBn (by decide))
  have hbs : Below w.heap.size w (x1.setCell ⟨w.heap.size, 10, none⟩ (.slice p1 o.links.length q1)) := (HB0.out.trans (hb.mono HB0.out.size)).setCell (p := ⟨w.heap.size, 10, none⟩) (Nat.le_refl _) _
  clear hBn ca1 fa1 ce1 ho hg
  go_upto_region 2 with fail
  obtain ⟨w1, hw1⟩ : ∃ z, z = x1.setCell ⟨w.heap.size, 10, none⟩ (.slice p1 o.links.length q1) := ⟨_, rfl⟩
  rw [← hw1] at hBs hRs hos hbs ⊢
  have B1 := hideP hBs
  have R1 := hideP hRs
  have O1 := hideP hos
  have HB1 := hideP hbs
  have LT1 : Hid (∀ q, (Value.slice p1 o.links.length q1).ownBlock = some q → q < w1.heap.size) := hideP (fun q e => (O1.out.lt q e).2)
  clear hBs hRs hos hbs hb hw1 cb1 fb1 B0 R0 HB0
  have ca2 : w1.cell? ⟨w.heap.size, 11, none⟩ = some (.slice ad o.data.length cd) := (B1.out.cell 11).trans rfl
  have fa2 : w1.frozen? ⟨w.heap.size, 11, none⟩ = false := B1.out.frozen 11
  have ce2 := cell_alloc_keepB ca2 (.cells #[] 3)
  go_wp2_with (at_builtin; refine wpList_append_rd _ rfl _ _ 31 rfl w1.heap.size 3 i0 (.int .i64 0) 1 8 Try.underlying31 hi hz0 hz1 hz2 rfl (by decide) _ 0 [] rfl (owns_lit (Nat.le_refl _) rfl (by decide) rfl rfl) _ o.data.length _ (icell o.data) rfl (by simp [icell]) ((hrd.below HB1.out).below (below_a1 _ _)) ?ca2 ?cb2 ?cc2 ?cd2 ?_)
  case ca2 => simp [icell, Value.oneCell']
  case cb2 => unfold maxLen; omega
  case cc2 => omega
  try case cd2 => simp
  intro v2 x2 ho hg
  obtain ⟨p2, q2, rfl, _⟩ := owns_slice ho
  try rw [List.nil_append] at ho
  have HGE : ∀ q, (Value.slice p2 o.data.length q2).ownBlock = some q → w1.heap.size ≤ q := fun q e => (ho.lt q e).1
  have hb : Below w1.heap.size w1 x2 := Below.grown (below_a1 w1 _) hg (by simp) (fun q e => by cases e; exact Nat.le_refl _)
  have cb2 : x2.cell? ⟨w.heap.size, 11, none⟩ = some (.slice ad o.data.length cd) := ((B1.out.below hb).cell 11).trans rfl
  have fb2 : x2.frozen? ⟨w.heap.size, 11, none⟩ = false := (B1.out.below hb).frozen 11
  have hBn : Blk x2 w.heap.size 34 _ := B1.out.below hb
  have hBs := hBn.set 11 (.slice p2 o.data.length q2)
  have hRs := (R1.out.below hb).other (g' := w.heap.size) 11 (.slice p2 o.data.length q2) (by omega)
  have hos : (x2.setCell ⟨w.heap.size, 11, none⟩ (.slice p2 o.data.length q2)).ownsRow w.heap.size 3 1 (.slice p2 o.data.length q2) o.data.length (icell o.data) := (keptSet x2 w.heap.size 11 _).owns (owns_mono ho HB1.out.size) (rowNe ho hBn (by decide))
  have hbs : Below w.heap.size w (x2.setCell ⟨w.heap.size, 11, none⟩ (.slice p2 o.data.length q2)) := (HB1.out.trans (hb.mono HB1.out.size)).setCell (p := ⟨w.heap.size, 11, none⟩) (Nat.le_refl _) _
  have ho1 := (keptSet x2 w.heap.size 11 (.slice p2 o.data.length q2)).owns (owns_below O1.out (Nat.le_refl _) hb) (rowNe (owns_below O1.out (Nat.le_refl _) hb) hBn (by decide))
  clear hBn ca2 fa2 ce2 ho hg
  go_upto_region 3 with fail
  obtain ⟨w2, hw2⟩ : ∃ z, z = x2.setCell ⟨w.heap.size, 11, none⟩ (.slice p2 o.data.length q2) := ⟨_, rfl⟩
  rw [← hw2] at hBs hRs hos hbs ho1 ⊢
  have B2 := hideP hBs
  have R2 := hideP hRs
  have O2 := hideP hos
  have HB2 := hideP hbs
  clear O1
  have O1 := hideP ho1
  clear ho1
  have HLD : Hid (∀ q, (Value.slice p1 o.links.length q1).ownBlock = some q → (Value.slice p2 o.data.length q2).ownBlock ≠ some q) := hideP (fun q e1 e2 => by have a := (LT1.out q e1); have b := (HGE q e2); omega)
  clear hBs hRs hos hbs hb hw2 cb2 fb2 B1 R1 HB1
  have ca3 : w2.cell? ⟨w.heap.size, 12, none⟩ = some (.slice aq o.queue.length cq) := (B2.out.cell 12).trans rfl
  have fa3 : w2.frozen? ⟨w.heap.size, 12, none⟩ = false := B2.out.frozen 12
  have ce3 := cell_alloc_keepB ca3 (.cells #[] 67)
  go_wp2_with (at_builtin; refine wpList_append_rd _ rfl _ _ 32 rfl w2.heap.size 67 j0 (.agg #[.int .i64 0, .int .i64 0]) 2 16 Try.underlying32 hj hy0 hy1 hy2 rfl (by decide) _ 0 [] rfl (owns_lit (Nat.le_refl _) rfl (by decide) rfl rfl) _ o.queue.length _ (o.queue.flatMap Msg.enc) rfl (flat_length Msg.enc 2 Msg.enc_len o.queue) ((hrq.below HB2.out).below (below_a1 _ _)) ?ca3 ?cb3 ?cc3 ?cd3 ?_)
  case ca3 => exact fun u hu => by obtain ⟨m, _, hm⟩ := List.mem_flatMap.1 hu; simp [Msg.enc] at hm; rcases hm with rfl | rfl <;> rfl
  case cb3 => unfold maxLen; omega
  case cc3 => omega
  try case cd3 => simp
  intro v3 x3 ho hg
  obtain ⟨p3, q3, rfl, _⟩ := owns_slice ho
  try rw [List.nil_append] at ho
  have hb : Below w2.heap.size w2 x3 := Below.grown (below_a1 w2 _) hg (by simp) (fun q e => by cases e; exact Nat.le_refl _)
  have cb3 : x3.cell? ⟨w.heap.size, 12, none⟩ = some (.slice aq o.queue.length cq) := ((B2.out.below hb).cell 12).trans rfl
  have fb3 : x3.frozen? ⟨w.heap.size, 12, none⟩ = false := (B2.out.below hb).frozen 12
  have hBn : Blk x3 w.heap.size 34 _ := B2.out.below hb
  have hBs := hBn.set 12 (.slice p3 o.queue.length q3)
  have hRs := (R2.out.below hb).other (g' := w.heap.size) 12 (.slice p3 o.queue.length q3) (by omega)
  have hos : (x3.setCell ⟨w.heap.size, 12, none⟩ (.slice p3 o.queue.length q3)).ownsRow w.heap.size 67 2 (.slice p3 o.queue.length q3) o.queue.length (o.queue.flatMap Msg.enc) := (keptSet x3 w.heap.size 12 _).owns (owns_mono ho HB2.out.size) (rowNe ho hBn (by decide))
  have hbs : Below w.heap.size w (x3.setCell ⟨w.heap.size, 12, none⟩ (.slice p3 o.queue.length q3)) := (HB2.out.trans (hb.mono HB2.out.size)).setCell (p := ⟨w.heap.size, 12, none⟩) (Nat.le_refl _) _
  have ho1 := (keptSet x3 w.heap.size 12 (.slice p3 o.queue.length q3)).owns (owns_below O1.out (Nat.le_refl _) hb) (rowNe (owns_below O1.out (Nat.le_refl _) hb) hBn (by decide))
  have ho2 := (keptSet x3 w.heap.size 12 (.slice p3 o.queue.length q3)).owns (owns_below O2.out (Nat.le_refl _) hb) (rowNe (owns_below O2.out (Nat.le_refl _) hb) hBn (by decide))
  clear hBn ca3 fa3 ce3 ho hg
  go_upto_region 4 with fail
  obtain ⟨w3, hw3⟩ : ∃ z, z = x3.setCell ⟨w.heap.size, 12, none⟩ (.slice p3 o.queue.length q3) := ⟨_, rfl⟩
  rw [← hw3] at hBs hRs hos hbs ho1 ho2 ⊢
  have B3 := hideP hBs
  have R3 := hideP hRs
  have O3 := hideP hos
  have HB3 := hideP hbs
  clear O1
  have O1 := hideP ho1
  clear ho1
  clear O2
  have O2 := hideP ho2
  clear ho2
  clear hBs hRs hos hbs hb hw3 cb3 fb3 B2 R2 HB2
  have b0 : w3.cell? ⟨w.heap.size, 0, none⟩ = some (.int .i64 o.gen) := (B3.out.cell 0).trans rfl
  have b1 : w3.cell? ⟨w.heap.size, 1, none⟩ = some (.int .i64 o.kind) := (B3.out.cell 1).trans rfl
  have b2 : w3.cell? ⟨w.heap.size, 2, none⟩ = some (.int .i64 o.box) := (B3.out.cell 2).trans rfl
  have b3 : w3.cell? ⟨w.heap.size, 3, none⟩ = some (.int .i64 o.res) := (B3.out.cell 3).trans rfl
  have b4 : w3.cell? ⟨w.heap.size, 4, none⟩ = some (.int .i64 o.til) := (B3.out.cell 4).trans rfl
  have b5 : w3.cell? ⟨w.heap.size, 5, none⟩ = some (.int .i64 o.pages) := (B3.out.cell 5).trans rfl
  have b6 : w3.cell? ⟨w.heap.size, 6, none⟩ = some (.int .i64 o.wait) := (B3.out.cell 6).trans rfl
  have b7 : w3.cell? ⟨w.heap.size, 7, none⟩ = some (.int .i64 o.got) := (B3.out.cell 7).trans rfl
  have b8 : w3.cell? ⟨w.heap.size, 8, none⟩ = some (.int .i64 o.ran) := (B3.out.cell 8).trans rfl
  have b9 : w3.cell? ⟨w.heap.size, 9, none⟩ = some (.bool o.mark) := (B3.out.cell 9).trans rfl
  have b10 : w3.cell? ⟨w.heap.size, 10, none⟩ = some (.slice p1 o.links.length q1) := (B3.out.cell 10).trans rfl
  have b11 : w3.cell? ⟨w.heap.size, 11, none⟩ = some (.slice p2 o.data.length q2) := (B3.out.cell 11).trans rfl
  have b12 : w3.cell? ⟨w.heap.size, 12, none⟩ = some (.slice p3 o.queue.length q3) := (B3.out.cell 12).trans rfl
  have r0 : w3.cell? ⟨w.heap.size + 1, 0, none⟩ = some (.int .i64 0) := (R3.out.cell 0).trans rfl
  have fr0 : w3.frozen? ⟨w.heap.size + 1, 0, none⟩ = false := R3.out.frozen 0
  have r1 : w3.cell? ⟨w.heap.size + 1, 1, none⟩ = some (.int .i64 0) := (R3.out.cell 1).trans rfl
  have fr1 : w3.frozen? ⟨w.heap.size + 1, 1, none⟩ = false := R3.out.frozen 1
  have r2 : w3.cell? ⟨w.heap.size + 1, 2, none⟩ = some (.int .i64 0) := (R3.out.cell 2).trans rfl
  have fr2 : w3.frozen? ⟨w.heap.size + 1, 2, none⟩ = false := R3.out.frozen 2
  have r3 : w3.cell? ⟨w.heap.size + 1, 3, none⟩ = some (.int .i64 0) := (R3.out.cell 3).trans rfl
  have fr3 : w3.frozen? ⟨w.heap.size + 1, 3, none⟩ = false := R3.out.frozen 3
  have r4 : w3.cell? ⟨w.heap.size + 1, 4, none⟩ = some (.int .i64 0) := (R3.out.cell 4).trans rfl
  have fr4 : w3.frozen? ⟨w.heap.size + 1, 4, none⟩ = false := R3.out.frozen 4
  have r5 : w3.cell? ⟨w.heap.size + 1, 5, none⟩ = some (.int .i64 0) := (R3.out.cell 5).trans rfl
  have fr5 : w3.frozen? ⟨w.heap.size + 1, 5, none⟩ = false := R3.out.frozen 5
  have r6 : w3.cell? ⟨w.heap.size + 1, 6, none⟩ = some (.int .i64 0) := (R3.out.cell 6).trans rfl
  have fr6 : w3.frozen? ⟨w.heap.size + 1, 6, none⟩ = false := R3.out.frozen 6
  have r7 : w3.cell? ⟨w.heap.size + 1, 7, none⟩ = some (.int .i64 0) := (R3.out.cell 7).trans rfl
  have fr7 : w3.frozen? ⟨w.heap.size + 1, 7, none⟩ = false := R3.out.frozen 7
  have r8 : w3.cell? ⟨w.heap.size + 1, 8, none⟩ = some (.int .i64 0) := (R3.out.cell 8).trans rfl
  have fr8 : w3.frozen? ⟨w.heap.size + 1, 8, none⟩ = false := R3.out.frozen 8
  have r9 : w3.cell? ⟨w.heap.size + 1, 9, none⟩ = some (.bool false) := (R3.out.cell 9).trans rfl
  have fr9 : w3.frozen? ⟨w.heap.size + 1, 9, none⟩ = false := R3.out.frozen 9
  have r10 : w3.cell? ⟨w.heap.size + 1, 10, none⟩ = some (.slice none 0 0) := (R3.out.cell 10).trans rfl
  have fr10 : w3.frozen? ⟨w.heap.size + 1, 10, none⟩ = false := R3.out.frozen 10
  have r11 : w3.cell? ⟨w.heap.size + 1, 11, none⟩ = some (.slice none 0 0) := (R3.out.cell 11).trans rfl
  have fr11 : w3.frozen? ⟨w.heap.size + 1, 11, none⟩ = false := R3.out.frozen 11
  have r12 : w3.cell? ⟨w.heap.size + 1, 12, none⟩ = some (.slice none 0 0) := (R3.out.cell 12).trans rfl
  have fr12 : w3.frozen? ⟨w.heap.size + 1, 12, none⟩ = false := R3.out.frozen 12
  have K := keptSets w3 (w.heap.size + 1) 0 (TE.enc ⟨o, .slice p1 o.links.length q1, .slice p2 o.data.length q2, .slice p3 o.queue.length q3⟩)
  go_wp2
  refine bodyPost_ret (v := .agg #[.int .i64 o.gen, .int .i64 o.kind, .int .i64 o.box, .int .i64 o.res, .int .i64 o.til, .int .i64 o.pages, .int .i64 o.wait, .int .i64 o.got, .int .i64 o.ran, .bool o.mark, .slice p1 o.links.length q1, .slice p2 o.data.length q2, .slice p3 o.queue.length q3]) (by simp [results, Try.results77, go_sem, r0, r1, r2, r3, r4, r5, r6, r7, r8, r9, r10, r11, r12]) rfl ⟨_, _, _, rfl, ?_, ?_, ?_, HLD.out, ?_⟩
  · exact K.owns O1.out (rowNe O1.out R3.out (by decide))
  · exact K.owns O2.out (rowNe O2.out R3.out (by decide))
  · exact K.owns O3.out (rowNe O3.out R3.out (by decide))
  · exact HB3.out.trans (K.below HB3.out.size (fun k e => by omega))

set_option maxRecDepth 100000 in
set_option maxHeartbeats 4000000 in
theorem l8Copy_any (l : List Thing) (p : Option Addr) (c M : Nat) (lk : Bool) (hl : l.length ≤ 1048576) (hM : M ≤ 1048576) (hs : ∀ x ∈ l, Sm M lk x) (w : World) (h : ThingsRd w p l) :
    Calls Try.prog 76 #[.slice p l.length c] w fun e w' => ∃ v ts, e = .returned v ∧ TS w' w.heap.size M lk v l.length ts ∧ ts.map (·.t) = l ∧ Below w.heap.size w w' := by
  have HR := hideP h
  have HS := hideP hs
  obtain ⟨i0, hi, hz0, hz1, hz2⟩ := info_parts Try.infoObj
  have H0 : Hid (TS (w.alloc (.cells #[] 34)) w.heap.size M lk (.slice (some ⟨w.heap.size, 0, none⟩) 0 0) 0 []) := hideP ⟨owns_lit (Nat.le_refl _) rfl (by decide) rfl rfl, rfl, by simp, Ap.nil⟩
  have HB := hideP (below_a1 w (.cells #[] 34))
  clear h hs
  go_enter Try.func76, Try.ntmps76
  go_wp2
  go_loopg [3, 4] (l.length + 1) (fun gk v iv wr => ∃ (k : Nat) (ts : List TE), l.length < gk + k ∧ k ≤ l.length ∧ iv = .int .i64 (k : Int) ∧ Hid (ts.map (·.t) = l.take k) ∧ Hid (TS wr w.heap.size M lk v k ts) ∧ Hid (Below w.heap.size w wr))
  case atStart => exact ⟨0, [], by omega, by omega, rfl, hideP (by simp), H0, HB⟩
  case round =>
    clear H0 HB
    obtain ⟨k, ts, hgk, hk, rfl, HT, HO, HB⟩ := hrel
    by_cases hlt : k < l.length
    · obtain ⟨x, hx⟩ := some_at hlt
      obtain ⟨b, o, vl, vd, vq, rfl, hbw, hi2, hc⟩ := (HR.out.below HB.out) k x hx
      have HX := hideP (HS.out x (List.mem_of_getElem? hx))
      have c0 := hc 0 _ rfl
      have c1 := hc 1 _ rfl
      have c2 := hc 2 _ rfl
      have c3 := hc 3 _ rfl
      have c4 := hc 4 _ rfl
      have c5 := hc 5 _ rfl
      have c6 := hc 6 _ rfl
      have c7 := hc 7 _ rfl
      have c8 := hc 8 _ rfl
      have c9 := hc 9 _ rfl
      have c10 := hc 10 _ rfl
      have c11 := hc 11 _ rfl
      have c12 := hc 12 _ rfl
      simp only [Nat.add_zero] at c0
      have HI := hideP hi2
      have HXT := hideP (take_snoc hx)
      have k0 : (0 : Int) ≤ (k : Int) := by omega
      have k1 : (k : Int) < (l.length : Int) := by omega
      obtain ⟨⟨al, cl, rfl, _, _⟩, ⟨ad, cd, rfl, _, _⟩, ⟨aq, cq, rfl, _, _⟩⟩ := hi2
      clear hc hx
      go_wp2_with fail
      refine (l8Obj_any x _ _ _ (by have := HX.out.l; omega) (by have := HX.out.d; omega) (by have := HX.out.q; omega) wr HI.out).mono ?_
      rintro e w2 ⟨ul, ud, uq, rfl, o1, o2, o3, old, hb1⟩
      obtain ⟨pl, ql, rfl, _⟩ := owns_slice o1
      obtain ⟨pd, qd, rfl, _⟩ := owns_slice o2
      obtain ⟨pq, qq, rfl, _⟩ := owns_slice o3
      obtain ⟨pv, qv, rfl, _⟩ := owns_slice HO.out.row
      have HE : Hid (TEOk w2 w.heap.size M lk ⟨x, .slice pl x.links.length ql, .slice pd x.data.length qd, .slice pq x.queue.length qq⟩) := hideP ⟨owns_mono o1 HB.out.size, owns_mono o2 HB.out.size, owns_mono o3 HB.out.size, HX.out⟩
      have HLT : Hid (∀ y ∈ ts, ∀ q, bl2 y q → q < wr.heap.size) := hideP (fun y hy q hq => HO.out.lt hy hq)
      have HGE : Hid (∀ q, bl2 ⟨x, .slice pl x.links.length ql, .slice pd x.data.length qd, .slice pq x.queue.length qq⟩ q → wr.heap.size ≤ q) := hideP (fun q hq => hq.elim (fun e => (o1.lt q e).1) (fun e => (o2.lt q e).1))
      have HLD := hideP old
      have HO := hideP (HO.out.below hb1)
      have HB := hideP (HB.out.trans (hb1.mono HB.out.size))
      clear o1 o2 o3 hb1 HX HI old
      go_wp2_with (at_builtin; refine wpList_append_rd _ rfl _ _ 40 rfl w.heap.size 34 i0 (.agg #[.int .i64 0, .int .i64 0, .int .i64 0, .int .i64 0, .int .i64 0, .int .i64 0, .int .i64 0, .int .i64 0, .int .i64 0, .bool false, .slice none 0 0, .slice none 0 0, .slice none 0 0]) 13 152 Try.underlying40 hi hz0 hz1 hz2 rfl (by decide) _ k _ rfl (World.ownsRow.alloc HO.out.row _) _ 1 1 (x.cells (.slice pl x.links.length ql) (.slice pd x.data.length qd) (.slice pq x.queue.length qq)) rfl rfl (rd_litg (by rfl) (by simp)) ?c1 ?c2 ?c3 ?c4 ?_)
      case c1 => simp [Value.oneCell', Thing.cells]
      case c2 => unfold maxLen; omega
      case c3 => omega
      case c4 => have := HB.out.size; simp; omega
      intro v9 w9 ho9 hg9
      have hba := below_a1 w2 (.cells #[.int .i64 x.gen, .int .i64 x.kind, .int .i64 x.box, .int .i64 x.res, .int .i64 x.til, .int .i64 x.pages, .int .i64 x.wait, .int .i64 x.got, .int .i64 x.ran, .bool x.mark, .slice pl x.links.length ql, .slice pd x.data.length qd, .slice pq x.queue.length qq] 34)
      have HN := hideP ((HO.out.below hba).snoc (HE.out.below hba) HLT.out HGE.out HLD.out ho9 hg9)
      have HB9 := hideP ((HB.out.trans (hba.mono HB.out.size)).grown hg9 (HB.out.trans (hba.mono HB.out.size)).size (fun q e => (HO.out.row.lt q e).1))
      have HM : Hid ((ts ++ [⟨x, .slice pl x.links.length ql, .slice pd x.data.length qd, .slice pq x.queue.length qq⟩] : List TE).map (·.t) = l.take (k + 1)) := hideP (by rw [List.map_append, HT.out, HXT.out]; rfl)
      clear ho9 hg9 hba HO HE HB HT HXT HLT HGE HLD
      go_wp2
      go_roundg (gk - 1)
      case measure => omega
      case rel => exact ⟨k + 1, _, by omega, by omega, by go_num, HM, HN, HB9⟩
    · have he : k = l.length := by omega
      subst he
      go_wp2
      go_ret
      exact ⟨_, ts, rfl, HO.out, by rw [HT.out, List.take_length], HB.out⟩

def zTE : TE := ⟨noThing 0, .slice none 0 0, .slice none 0 0, .slice none 0 0⟩
theorem sm_no {M : Nat} {lk : Bool} (g : Int) : Sm M lk (noThing g) := ⟨Nat.zero_le _, Nat.zero_le _, Nat.zero_le _, (show I64 0 by unfold I64; decide), fun _ h => absurd rfl h⟩
theorem sm_box : Sm 2 true ⟨0, 1, -1, 0, 1000000, 0, 0, 0, 0, false, [-1, -1], [], []⟩ := ⟨by decide, by decide, by decide, by unfold I64; decide, fun _ _ => by decide⟩
theorem zTE_ok (w : World) (B M : Nat) (lk : Bool) (g : Int) : TEOk w B M lk ⟨noThing g, .slice none 0 0, .slice none 0 0, .slice none 0 0⟩ :=
  ⟨owns_nilB _ _ _ _, owns_nilB _ _ _ _, owns_nilB _ _ _ _, sm_no g⟩
theorem made_ten : (madeCells #[.int .i64 0, .int .i64 0, .int .i64 0, .int .i64 0, .int .i64 0, .int .i64 0, .int .i64 0, .int .i64 0, .int .i64 0, .bool false, .slice none 0 0, .slice none 0 0, .slice none 0 0] 130).toList = (List.replicate 10 zTE).flatMap TE.enc := by
  unfold madeCells
  rw [Array.toList_map, Array.toList_range]
  rfl
set_option maxRecDepth 100000 in
set_option maxHeartbeats 4000000 in
theorem arenaNew_any (w : World) : Calls Try.prog 62 #[] w fun e w' => ∃ v ts, e = .returned v ∧ TS w' w.heap.size 2 true v 10 ts ∧ Below w.heap.size w w' := by
  obtain ⟨i0, hi, hz0, hz1, hz2⟩ := info_parts Try.infoObj
  go_enter Try.func62, Try.ntmps62
  go_wp2_with (at_make; refine wpList_make_full _ rfl _ _ 40 rfl w.heap.size 34 i0 (.agg #[.int .i64 0, .int .i64 0, .int .i64 0, .int .i64 0, .int .i64 0, .int .i64 0, .int .i64 0, .int .i64 0, .int .i64 0, .bool false, .slice none 0 0, .slice none 0 0, .slice none 0 0]) 13 Try.underlying40 hi hz0 hz1 .i64 .i64 _ _ 10 rfl rfl rfl rfl ?c1 ?c2 (Nat.le_refl _) ?_)
  case c1 => rw [hz2]; omega
  case c2 => unfold maxLen; omega
  intro w2 hown hg
  have hb2 := (Below.refl w.heap.size w).grown hg (Nat.le_refl _) (by simp)
  rw [made_ten] at hown
  have HT : Hid (TS w2 w.heap.size 2 true (.slice (some ⟨w.heap.size, 0, none⟩) 10 10) 10 (List.replicate 10 zTE)) := hideP ⟨hown, rfl, fun x hx => by rw [List.eq_of_mem_replicate hx]; exact zTE_ok _ _ _ _ 0, fun i _ x _ hx _ q hq => by rw [List.eq_of_mem_replicate (List.mem_of_getElem? hx)] at hq; cases hq⟩
  have HB := hideP hb2
  clear hown hg hb2
  have hb3 := below_a1 w2 (.cells #[.int .i64 (-1), .int .i64 (-1)] 3)
  have HL : Hid (RI (w2.alloc (.cells #[.int .i64 (-1), .int .i64 (-1)] 3)) w.heap.size (.slice (some ⟨w2.heap.size, 0, none⟩) 2 2) [-1, -1]) := hideP (owns_lit HB.out.size rfl (by decide) rfl rfl)
  have HT3 := hideP (HT.out.below hb3)
  have HB3 := hideP (HB.out.trans (hb3.mono HB.out.size))
  have t0 := HT3.out.cell (k := 0) (x := zTE) rfl (j := 0) rfl
  rw [show 0 * 13 + 0 = 0 from rfl] at t0
  obtain ⟨c0, f0⟩ := t0
  have t1 := HT3.out.cell (k := 0) (x := zTE) rfl (j := 1) rfl
  rw [show 0 * 13 + 1 = 1 from rfl] at t1
  obtain ⟨c1, f1⟩ := t1
  have t2 := HT3.out.cell (k := 0) (x := zTE) rfl (j := 2) rfl
  rw [show 0 * 13 + 2 = 2 from rfl] at t2
  obtain ⟨c2, f2⟩ := t2
  have t3 := HT3.out.cell (k := 0) (x := zTE) rfl (j := 3) rfl
  rw [show 0 * 13 + 3 = 3 from rfl] at t3
  obtain ⟨c3, f3⟩ := t3
  have t4 := HT3.out.cell (k := 0) (x := zTE) rfl (j := 4) rfl
  rw [show 0 * 13 + 4 = 4 from rfl] at t4
  obtain ⟨c4, f4⟩ := t4
  have t5 := HT3.out.cell (k := 0) (x := zTE) rfl (j := 5) rfl
  rw [show 0 * 13 + 5 = 5 from rfl] at t5
  obtain ⟨c5, f5⟩ := t5
  have t6 := HT3.out.cell (k := 0) (x := zTE) rfl (j := 6) rfl
  rw [show 0 * 13 + 6 = 6 from rfl] at t6
  obtain ⟨c6, f6⟩ := t6
  have t7 := HT3.out.cell (k := 0) (x := zTE) rfl (j := 7) rfl
  rw [show 0 * 13 + 7 = 7 from rfl] at t7
  obtain ⟨c7, f7⟩ := t7
  have t8 := HT3.out.cell (k := 0) (x := zTE) rfl (j := 8) rfl
  rw [show 0 * 13 + 8 = 8 from rfl] at t8
  obtain ⟨c8, f8⟩ := t8
  have t9 := HT3.out.cell (k := 0) (x := zTE) rfl (j := 9) rfl
  rw [show 0 * 13 + 9 = 9 from rfl] at t9
  obtain ⟨c9, f9⟩ := t9
  have t10 := HT3.out.cell (k := 0) (x := zTE) rfl (j := 10) rfl
  rw [show 0 * 13 + 10 = 10 from rfl] at t10
  obtain ⟨c10, f10⟩ := t10
  have t11 := HT3.out.cell (k := 0) (x := zTE) rfl (j := 11) rfl
  rw [show 0 * 13 + 11 = 11 from rfl] at t11
  obtain ⟨c11, f11⟩ := t11
  have t12 := HT3.out.cell (k := 0) (x := zTE) rfl (j := 12) rfl
  rw [show 0 * 13 + 12 = 12 from rfl] at t12
  obtain ⟨c12, f12⟩ := t12
  have HX : Hid (TEOk (w2.alloc (.cells #[.int .i64 (-1), .int .i64 (-1)] 3)) w.heap.size 2 true ⟨⟨0, 1, -1, 0, 1000000, 0, 0, 0, 0, false, [-1, -1], [], []⟩, .slice (some ⟨w2.heap.size, 0, none⟩) 2 2, .slice none 0 0, .slice none 0 0⟩) := hideP ⟨HL.out, owns_nilB _ _ _ _, owns_nilB _ _ _ _, sm_box⟩
  have HN := hideP (HT3.out.whole (k := 0) (N := w2.heap.size) (by decide) HX.out (fun e => e) (fun y hy q hq => HT.out.lt hy hq) (fun q hq => by rcases hq with e | e <;> cases e; exact Nat.le_refl _) (fun q _ e => by cases e))
  have HBN := hideP (HB3.out.trans ((keptSets _ w.heap.size (0 * 13) (TE.enc ⟨⟨0, 1, -1, 0, 1000000, 0, 0, 0, 0, false, [-1, -1], [], []⟩, .slice (some ⟨w2.heap.size, 0, none⟩) 2 2, .slice none 0 0, .slice none 0 0⟩)).below HB3.out.size (fun k e => by omega)))
  clear HT HB HL HT3 HB3 HX hb3
  go_wp2
  go_ret
  exact ⟨_, _, rfl, HN.out, HBN.out⟩

end Go.Proofs.Ytabbncoihmhocaa
