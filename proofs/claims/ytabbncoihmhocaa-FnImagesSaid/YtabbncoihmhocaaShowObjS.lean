/- The walk of the reference's ShowObj. -/
import Derived.Test.YtabbncoihmhocaaShowObjPure
import Derived.Test.YtabbncoihmhocaaThingOkS
import Derived.Test.YtabbncoihmhocaaKeep
import Derived.Deep.LoopGhost
import Derived.Lib.QuietBelow
namespace Go.Proofs.Ytabbncoihmhocaa
open Go.RowKit

set_option maxRecDepth 100000 in
set_option maxHeartbeats 8000000 in
theorem specShowObj_any (o : Thing) (vl vd vq : Value) (hl : o.links.length ≤ 1048576) (hd : o.data.length ≤ 1048576) (hq : o.queue.length ≤ 1048576) (hw : Hid (I64 o.wait)) (w : World) (h : ThIs w o vl vd vq) :
    Calls Try.prog 61 #[.agg #[.int .i64 o.gen, .int .i64 o.kind, .int .i64 o.box, .int .i64 o.res, .int .i64 o.til, .int .i64 o.pages, .int .i64 o.wait, .int .i64 o.got, .int .i64 o.ran, .bool o.mark, vl, vd, vq]] w fun e w' => e = .returned (.string ⟨(showThing o).toArray⟩) ∧ Below w.heap.size w w' := by
  obtain ⟨⟨al, cl, rfl, hcl, hrl⟩, ⟨ad, cd, rfl, hcd, hrd⟩, ⟨aq, cq, rfl, hcq, hrq⟩⟩ := h
  have hb0 := below_a1 w (.cells #[.int .i64 o.gen, .int .i64 o.kind, .int .i64 o.box, .int .i64 o.res, .int .i64 o.til, .int .i64 o.pages, .int .i64 o.wait, .int .i64 o.got, .int .i64 o.ran, .bool o.mark, .slice al o.links.length cl, .slice ad o.data.length cd, .slice aq o.queue.length cq] 34)
  have hB0 : Blk (w.alloc (.cells #[.int .i64 o.gen, .int .i64 o.kind, .int .i64 o.box, .int .i64 o.res, .int .i64 o.til, .int .i64 o.pages, .int .i64 o.wait, .int .i64 o.got, .int .i64 o.ran, .bool o.mark, .slice al o.links.length cl, .slice ad o.data.length cd, .slice aq o.queue.length cq] 34)) w.heap.size 34 [.int .i64 o.gen, .int .i64 o.kind, .int .i64 o.box, .int .i64 o.res, .int .i64 o.til, .int .i64 o.pages, .int .i64 o.wait, .int .i64 o.got, .int .i64 o.ran, .bool o.mark, .slice al o.links.length cl, .slice ad o.data.length cd, .slice aq o.queue.length cq] := Blk.new w #[.int .i64 o.gen, .int .i64 o.kind, .int .i64 o.box, .int .i64 o.res, .int .i64 o.til, .int .i64 o.pages, .int .i64 o.wait, .int .i64 o.got, .int .i64 o.ran, .bool o.mark, .slice al o.links.length cl, .slice ad o.data.length cd, .slice aq o.queue.length cq] 34
  have HB0 := Lib.hid hB0
  clear hB0
  go_enter Try.func61, Try.ntmps61
  go_wp2_with fail
  refine (specThingOk_any o _ _ _ hl hd hq hw _ ⟨⟨al, cl, rfl, hcl, hrl.below hb0⟩, ⟨ad, cd, rfl, hcd, hrd.below hb0⟩, ⟨aq, cq, rfl, hcq, hrq.below hb0⟩⟩).mono ?_
  rintro e w1 ⟨rfl, hw1⟩
  have hb1 : Below (w.alloc (.cells #[.int .i64 o.gen, .int .i64 o.kind, .int .i64 o.box, .int .i64 o.res, .int .i64 o.til, .int .i64 o.pages, .int .i64 o.wait, .int .i64 o.got, .int .i64 o.ran, .bool o.mark, .slice al o.links.length cl, .slice ad o.data.length cd, .slice aq o.queue.length cq] 34)).heap.size (w.alloc (.cells #[.int .i64 o.gen, .int .i64 o.kind, .int .i64 o.box, .int .i64 o.res, .int .i64 o.til, .int .i64 o.pages, .int .i64 o.wait, .int .i64 o.got, .int .i64 o.ran, .bool o.mark, .slice al o.links.length cl, .slice ad o.data.length cd, .slice aq o.queue.length cq] 34)) w1 := hw1 ▸ below_a1 _ _
  clear hw1
  have HBK := hideP (HB0.out.below hb1)
  have hbx : Below w.heap.size w w1 := hb0.trans (hb1.mono hb0.size)
  have pz : w.heap.size < w1.heap.size := HBK.out.lt
  clear hb0 HB0 hb1
  cases hok : thingOk o
  · have HS : Hid (showThing o = []) := hideP (by unfold showThing; rw [hok]; rfl)
    go_wp2
    go_ret
    exact ⟨by rw [HS.out]; rfl, hbx⟩
  have HS : Hid (showThing o = thingShow o) := hideP (by unfold showThing; rw [hok]; rfl)
  have HG := hideP (thing_good hok)
  obtain ⟨bx0, bx1⟩ := HG.out.box
  obtain ⟨bg0, bg1⟩ := HG.out.got
  have n1 := HG.out.links
  have n2 := HG.out.data
  have n3 := HG.out.queue
  clear hok hl hd hq
  have c0 : w1.cell? ⟨w.heap.size, 0, none⟩ = some (.int .i64 o.gen) := (HBK.out.cell 0).trans rfl
  have c1 : w1.cell? ⟨w.heap.size, 1, none⟩ = some (.int .i64 o.kind) := (HBK.out.cell 1).trans rfl
  have c2 : w1.cell? ⟨w.heap.size, 2, none⟩ = some (.int .i64 o.box) := (HBK.out.cell 2).trans rfl
  have c3 : w1.cell? ⟨w.heap.size, 3, none⟩ = some (.int .i64 o.res) := (HBK.out.cell 3).trans rfl
  have c4 : w1.cell? ⟨w.heap.size, 4, none⟩ = some (.int .i64 o.til) := (HBK.out.cell 4).trans rfl
  have c5 : w1.cell? ⟨w.heap.size, 5, none⟩ = some (.int .i64 o.pages) := (HBK.out.cell 5).trans rfl
  have c6 : w1.cell? ⟨w.heap.size, 6, none⟩ = some (.int .i64 o.wait) := (HBK.out.cell 6).trans rfl
  have c7 : w1.cell? ⟨w.heap.size, 7, none⟩ = some (.int .i64 o.got) := (HBK.out.cell 7).trans rfl
  have c8 : w1.cell? ⟨w.heap.size, 8, none⟩ = some (.int .i64 o.ran) := (HBK.out.cell 8).trans rfl
  have c9 : w1.cell? ⟨w.heap.size, 9, none⟩ = some (.bool o.mark) := (HBK.out.cell 9).trans rfl
  have c10 : w1.cell? ⟨w.heap.size, 10, none⟩ = some (.slice al o.links.length cl) := (HBK.out.cell 10).trans rfl
  have zw1 : IntKind.i64.wrap (o.box + 1) = o.box + 1 := IntWalk.i64_in _ (by omega)
  have zw2 : IntKind.i64.wrap (o.got + 1) = o.got + 1 := IntWalk.i64_in _ (by omega)
  have v0 := varS_len o.gen
  have v1 := varS_len o.kind
  have v2 := varS_len (o.box + 1)
  have v3 := varS_len o.res
  have v4 := varS_len o.til
  have v5 := varS_len o.pages
  have v6 := varS_len o.wait
  have v7 := varS_len (o.got + 1)
  have v8 := varS_len o.ran
  have v9 := varS_len (flagI o.mark)
  have v10 := varS_len (o.links.length : Int)
  go_wp2
  have q_c0 := fun d os => cell_regrown c0 d os
  have q_c1 := fun d os => cell_regrown c1 d os
  have q_c2 := fun d os => cell_regrown c2 d os
  have q_c3 := fun d os => cell_regrown c3 d os
  have q_c4 := fun d os => cell_regrown c4 d os
  have q_c5 := fun d os => cell_regrown c5 d os
  have q_c6 := fun d os => cell_regrown c6 d os
  have q_c7 := fun d os => cell_regrown c7 d os
  have q_c8 := fun d os => cell_regrown c8 d os
  have q_c9 := fun d os => cell_regrown c9 d os
  have q_c10 := fun d os => cell_regrown c10 d os
  refine wp_region_quiet_below (by kernel_rfl) (by kernel_rfl) ?_
  repeat (first | go_big_quiet_step ((first | (go_at_call 69; exact Calls.regrown_of ((specFlag_any _ _).mono fun _ _ h => ⟨h.1, h.2 ▸ Below.refl _ _⟩)) | (go_at_call 68; exact Calls.regrown_of (specVar_any _ _)))) | quiet_step ((first | (go_at_call 69; exact Calls.regrown_of ((specFlag_any _ _).mono fun _ _ h => ⟨h.1, h.2 ▸ Below.refl _ _⟩)) | (go_at_call 68; exact Calls.regrown_of (specVar_any _ _)))))
  refine wpQuiet_nil ?_
  intro _ hw'
  obtain ⟨⟨dq, osq⟩, hw''⟩ := hw'
  subst hw''
  clear q_c0 q_c1 q_c2 q_c3 q_c4 q_c5 q_c6 q_c7 q_c8 q_c9 q_c10
  obtain ⟨w2, hwq⟩ : ∃ w2, w2 = Go.Sort.grow (redrawn w1 dq) osq := ⟨_, rfl⟩
  have hbw2 : Below w1.heap.size w1 w2 := hwq ▸ below_regrown _ dq osq
  rw [← hwq]
  clear hwq
  have HB2 := hideP (HBK.out.below hbw2)
  have hb02 := hbx.trans (hbw2.mono hbx.size)
  clear hbw2 zw1 zw2 HBK hbx pz c0 c1 c2 c3 c4 c5 c6 c7 c8 c9 c10 v0 v1 v2 v3 v4 v5 v6 v7 v8 v9 v10
  go_wp2
  have HLA : Hid ((varsL (thingNums o)).length ≤ 88) := hideP (varsL_len _)
  go_loopg [3, 4] (o.links.length + 1) (fun gk s i wr => ∃ (k : Nat) (acc : List UInt8), o.links.length < gk + k ∧ k ≤ o.links.length ∧ i = .int .i64 (k : Int) ∧ s = .string ⟨acc.toArray⟩ ∧ acc.length ≤ 200 ∧ Hid (varsL (thingNums o) ++ varsL ((linkNums o).take k) = acc) ∧ Hid (Blk wr w.heap.size 34 [.int .i64 o.gen, .int .i64 o.kind, .int .i64 o.box, .int .i64 o.res, .int .i64 o.til, .int .i64 o.pages, .int .i64 o.wait, .int .i64 o.got, .int .i64 o.ran, .bool o.mark, .slice al o.links.length cl, .slice ad o.data.length cd, .slice aq o.queue.length cq]) ∧ Below w.heap.size w wr)
  case atStart => exact ⟨0, varsL (thingNums o), by omega, by omega, rfl, by rw [thingNums_eq]; simp only [ByteArray.mk_append_mk, List.append_assoc], by have := HLA.out; omega, hideP (by simp [varsL]), HB2, hb02⟩
  case round =>
    clear HB2 hb02
    obtain ⟨k, acc, hgk, hk, rfl, rfl, hal, hv, HB, hb⟩ := hrel
    have k0 : (0 : Int) ≤ (k : Int) := by omega
    have c10 : wr.cell? ⟨w.heap.size, 10, none⟩ = some (.slice al o.links.length cl) := (HB.out.cell 10).trans rfl
    by_cases hlt : k < o.links.length
    · obtain ⟨x, hx⟩ := some_at (l := o.links) (k := k) hlt
      obtain ⟨b, oo, rfl, hbw, g1⟩ := rdInt (hrl.below hb) hx
      obtain ⟨x0, x1⟩ := HG.out.link x (List.mem_of_getElem? hx)
      have HV := hideP (varsL_map_next (linkNums_at hx) _ _ hv.out)
      have HAL : Hid ((acc ++ varS (x + 1)).length ≤ 200) := hideP (by have h1 := len_take (n := 2) HV.out (by simp [linkNums]; omega); have := HLA.out; omega)
      have hvl := varS_len (x + 1)
      clear hx
      go_wp2_with fail
      refine (specVar_any (x + 1) _).mono ?_
      rintro e w3 ⟨rfl, hb3⟩
      have HB3 := hideP (HB.out.below hb3)
      have hb03 := hb.trans (hb3.mono hb.size)
      clear hb3
      go_wp2
      go_roundg (gk - 1)
      case measure => omega
      case rel => exact ⟨k + 1, acc ++ varS (x + 1), by omega, by omega, by go_num, by rw [ByteArray.mk_append_mk], HAL.out, HV, HB3, hb03⟩
    · have HV : Hid (varsL (thingNums o) ++ varsL (linkNums o) = acc) := hideP (by rw [← hv.out, List.take_of_length_le (by simp [linkNums]; omega)])
      clear hv k0
      have c11 : wr.cell? ⟨w.heap.size, 11, none⟩ = some (.slice ad o.data.length cd) := (HB.out.cell 11).trans rfl
      have hv1 := varS_len (o.data.length : Int)
      go_wp2_with fail
      refine (specVar_any (o.data.length : Int) _).mono ?_
      rintro e w3 ⟨rfl, hb3⟩
      have HB3 := hideP (HB.out.below hb3)
      have hb03 := hb.trans (hb3.mono hb.size)
      clear hb3 c10 c11 HB hb
      obtain ⟨A, hA⟩ : ∃ A, A = acc ++ varS (o.data.length : Int) := ⟨_, rfl⟩
      have HAl : Hid (A.length ≤ 208) := hideP (by rw [hA, List.length_append]; omega)
      have HA := Lib.hid hA
      clear hA
      go_wp2
      go_loopg [3, 5] (o.data.length + 1) (fun gk s i wr => ∃ (k : Nat) (acc : List UInt8), o.data.length < gk + k ∧ k ≤ o.data.length ∧ i = .int .i64 (k : Int) ∧ s = .string ⟨acc.toArray⟩ ∧ acc.length ≤ 300 ∧ Hid (A ++ varsL (o.data.take k) = acc) ∧ Hid (Blk wr w.heap.size 34 [.int .i64 o.gen, .int .i64 o.kind, .int .i64 o.box, .int .i64 o.res, .int .i64 o.til, .int .i64 o.pages, .int .i64 o.wait, .int .i64 o.got, .int .i64 o.ran, .bool o.mark, .slice al o.links.length cl, .slice ad o.data.length cd, .slice aq o.queue.length cq]) ∧ Below w.heap.size w wr)
      case atStart => exact ⟨0, A, by omega, by omega, rfl, by rw [HA.out, ByteArray.mk_append_mk], by have := HAl.out; omega, hideP (by simp [varsL]), HB3, hb03⟩
      case round =>
        clear HB3 hb03 hal hlt hk hgk
        obtain ⟨k, acc2, hgk, hk, rfl, rfl, hal, hv, HB, hb⟩ := hrel
        have k0 : (0 : Int) ≤ (k : Int) := by omega
        have c11 : wr.cell? ⟨w.heap.size, 11, none⟩ = some (.slice ad o.data.length cd) := (HB.out.cell 11).trans rfl
        by_cases hlt : k < o.data.length
        · obtain ⟨x, hx⟩ := some_at (l := o.data) (k := k) hlt
          obtain ⟨b, oo, rfl, hbw, g1⟩ := rdInt (hrd.below hb) hx
          have HVn : Hid (A ++ varsL (o.data.take (k + 1)) = acc2 ++ varS x) := hideP (varsL_map_next hx _ _ hv.out)
          have HAL : Hid ((acc2 ++ varS x).length ≤ 300) := hideP (by have h1 := len_take (n := 8) HVn.out n2; have := HAl.out; omega)
          have hvl := varS_len x
          clear hx
          go_wp2_with fail
          refine (specVar_any x _).mono ?_
          rintro e w3 ⟨rfl, hb3⟩
          have HB3 := hideP (HB.out.below hb3)
          have hb03 := hb.trans (hb3.mono hb.size)
          clear hb3
          go_wp2
          go_roundg (gk - 1)
          case measure => omega
          case rel => exact ⟨k + 1, acc2 ++ varS x, by omega, by omega, by go_num, by rw [ByteArray.mk_append_mk], HAL.out, HVn, HB3, hb03⟩
        · have HV2 : Hid (A ++ varsL o.data = acc2) := hideP (by rw [← hv.out, List.take_of_length_le (by omega)])
          clear hv k0
          have c12 : wr.cell? ⟨w.heap.size, 12, none⟩ = some (.slice aq o.queue.length cq) := (HB.out.cell 12).trans rfl
          have hv2 := varS_len (o.queue.length : Int)
          go_wp2_with fail
          refine (specVar_any (o.queue.length : Int) _).mono ?_
          rintro e w3 ⟨rfl, hb3⟩
          have HB3 := hideP (HB.out.below hb3)
          have hb03 := hb.trans (hb3.mono hb.size)
          clear hb3 c11 c12 HB hb
          obtain ⟨A2, hA⟩ : ∃ A, A = acc2 ++ varS (o.queue.length : Int) := ⟨_, rfl⟩
          have HAl2 : Hid (A2.length ≤ 308) := hideP (by rw [hA, List.length_append]; omega)
          have HA2 := Lib.hid hA
          have HAQ : Hid (thingShow o = A2 ++ msgsShow o.queue) := hideP (by rw [thing_show_eq, HV.out, hA, ← HV2.out, HA.out]; simp only [List.append_assoc])
          clear hA
          go_wp2
          go_loopg [3, 6] (o.queue.length + 1) (fun gk s i wr => ∃ (k : Nat) (acc : List UInt8), o.queue.length < gk + k ∧ k ≤ o.queue.length ∧ i = .int .i64 (k : Int) ∧ s = .string ⟨acc.toArray⟩ ∧ acc.length ≤ 400 ∧ Hid (A2 ++ msgsShow (o.queue.take k) = acc) ∧ Hid (Blk wr w.heap.size 34 [.int .i64 o.gen, .int .i64 o.kind, .int .i64 o.box, .int .i64 o.res, .int .i64 o.til, .int .i64 o.pages, .int .i64 o.wait, .int .i64 o.got, .int .i64 o.ran, .bool o.mark, .slice al o.links.length cl, .slice ad o.data.length cd, .slice aq o.queue.length cq]) ∧ Below w.heap.size w wr)
          case atStart => exact ⟨0, A2, by omega, by omega, rfl, by rw [HA2.out, ByteArray.mk_append_mk], by have := HAl2.out; omega, hideP (by simp [msgsShow, varsL]), HB3, hb03⟩
          case round =>
            clear HB3 hb03 hal hlt hk hgk
            obtain ⟨k, acc3, hgk, hk, rfl, rfl, hal, hv, HB, hb⟩ := hrel
            have k0 : (0 : Int) ≤ (k : Int) := by omega
            by_cases hlt : k < o.queue.length
            · obtain ⟨x, hx⟩ := some_at (l := o.queue) (k := k) hlt
              have c12 : wr.cell? ⟨w.heap.size, 12, none⟩ = some (.slice aq o.queue.length cq) := (HB.out.cell 12).trans rfl
              obtain ⟨b, oo, rfl, hbw, g1, g2⟩ := (hrq.below hb).rowMsg hx
              obtain ⟨x0, x1, x2, x3⟩ := HG.out.msg x (List.mem_of_getElem? hx)
              have HVn := hideP (msgsShow_next hx _ _ hv.out)
              obtain ⟨xf, xn⟩ := x
              dsimp only at g1 g2 x0 x1 x2 x3
              have e2 : varsL (msgNums ⟨xf, xn⟩) = varS (xf + 1) ++ varS xn := by simp [msgNums, varsL]
              rw [e2] at HVn
              have HAL : Hid ((acc3 ++ (varS (xf + 1) ++ varS xn)).length ≤ 400) := hideP (by have h1 : (acc3 ++ (varS (xf + 1) ++ varS xn)).length ≤ _ := len_take2 (n := 2) HVn.out n3; have := HAl2.out; omega)
              have hvl := varS_len (xf + 1)
              have hvl2 := varS_len xn
              have kq : (k : Int) < (o.queue.length : Int) := by omega
              have zw : IntKind.i64.wrap (xf + 1) = xf + 1 := IntWalk.i64_in _ (by omega)
              clear hx e2
              go_wp2
              have q_c12 := fun d os => cell_regrown c12 d os
              have q_g1 := fun d os => cell_regrown g1 d os
              have q_g2 := fun d os => cell_regrown g2 d os
              refine wp_region_quiet_below (by kernel_rfl) (by kernel_rfl) ?_
              repeat (first | go_big_quiet_step ((first | (go_at_call 68; exact Calls.regrown_of (specVar_any _ _)))) | quiet_step ((first | (go_at_call 68; exact Calls.regrown_of (specVar_any _ _)))))
              refine wpQuiet_nil ?_
              intro _ hw'
              obtain ⟨⟨dq, osq⟩, hw''⟩ := hw'
              subst hw''
              clear q_c12 q_g1 q_g2
              obtain ⟨wq, hwq⟩ : ∃ wq, wq = Go.Sort.grow (redrawn wr dq) osq := ⟨_, rfl⟩
              have hbwq : Below wr.heap.size wr wq := hwq ▸ below_regrown _ dq osq
              rw [← hwq]
              clear hwq
              have HB3 := hideP (HB.out.below hbwq)
              have hb03 := hb.trans (hbwq.mono hb.size)
              clear hbwq zw
              go_wp2
              go_roundg (gk - 1)
              case measure => omega
              case rel => exact ⟨k + 1, acc3 ++ (varS (xf + 1) ++ varS xn), by omega, by omega, by go_num, by simp only [ByteArray.mk_append_mk, List.append_assoc], HAL.out, HVn, HB3, hb03⟩
            · have HVf : Hid (thingShow o = acc3) := hideP (by rw [HAQ.out, ← hv.out, List.take_of_length_le (by omega)])
              have c12 : wr.cell? ⟨w.heap.size, 12, none⟩ = some (.slice aq o.queue.length cq) := (HB.out.cell 12).trans rfl
              go_wp2
              go_ret
              exact ⟨by rw [HS.out, HVf.out]; rfl, hb⟩

end Go.Proofs.Ytabbncoihmhocaa
