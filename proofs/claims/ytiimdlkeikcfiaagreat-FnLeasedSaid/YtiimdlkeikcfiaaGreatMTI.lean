/- The types of the program, as the machine of trees knows them. -/
import Derived.Test.YtiimdlkeikcfiaaGreatMQ
import Derived.Test.YtiimdlkeikcfiaaGreatChecked
import Derived.KernelRfl
namespace Go.Proofs.YtiimdlkeikcfiaaGreat.M
open Go.RowKit

theorem tyOk_of {P : Program} {t : Nat} {i : TyI} (h1 : (P.info? t).bind (fun x => x.zero.map (fun z => (z.cells.toList, x.size, x.bytes))) = some (i.zero, i.zero.length, i.bytes)) (h2 : i.kd.Ok P t) (h3 : i.zero.all (·.oneCell') = true) : TyOk P t i := by
  refine ⟨?_, h2, h3⟩
  cases hx : P.info? t with
  | none => rw [hx] at h1; cases h1
  | some x =>
    rw [hx] at h1
    cases hz : x.zero with
    | none => simp [hz] at h1
    | some z =>
      simp only [Option.bind_some, hz, Option.map_some, Option.some.injEq, Prod.mk.injEq] at h1
      exact ⟨x, z, rfl, hz, h1.1, h1.2.1, h1.2.2⟩

theorem kd_struct {P : Program} {t : Nat} {fl : List (Nat × Nat)} (h : (match P.underlying t with
    | some (.struct fs) => some (fs.toList.map (fun f => (f.offset, f.type)), (fs.toList.mapM (fun f => (P.info? f.type).map fun i => (f.offset, i.size))).isSome)
    | _ => none) = some (fl, true)) : (Kd.struct fl).Ok P t := by
  split at h
  · rename_i fs hfs
    injection h with h
    injection h with h1 h2
    exact ⟨fs, hfs, h1, h2⟩
  · cases h

theorem kd_other {P : Program} {t : Nat} (h : (match P.underlying t with | some d => some d.isRow | none => none) = some false) : Kd.other.Ok P t := by
  split at h
  · rename_i d hd
    injection h with h
    exact ⟨d, hd, h⟩
  · cases h

def TI : TyT := fun t => match t with
  | 3 => some ⟨[.int .i64 0], 8, .int .i64⟩
  | 4 => some ⟨[.bool false], 1, .other⟩
  | 5 => some ⟨[.int .u8 0], 1, .int .u8⟩
  | 9 => some ⟨[.string ⟨#[]⟩], 16, .str⟩
  | 21 => some ⟨[.int .i32 0], 4, .int .i32⟩
  | 22 => some ⟨[.slice none 0 0], 24, .slice 5⟩
  | 24 => some ⟨[.slice none 0 0], 24, .slice 55⟩
  | 26 => some ⟨[.int .i64 0, .slice none 0 0], 32, .struct [(0, 3), (1, 24)]⟩
  | 29 => some ⟨[.slice none 0 0], 24, .slice 62⟩
  | 34 => some ⟨[.int .i64 0, .int .i64 0], 16, .struct [(0, 3), (1, 3)]⟩
  | 38 => some ⟨[.int .i64 0, .int .i64 0, .int .i64 0, .int .i64 0, .int .i64 0, .int .i64 0], 48, .struct [(0, 3), (1, 3), (2, 3), (3, 3), (4, 3), (5, 3)]⟩
  | 39 => some ⟨[.slice none 0 0], 24, .slice 38⟩
  | 42 => some ⟨[.slice none 0 0], 24, .slice 3⟩
  | 44 => some ⟨[.slice none 0 0], 24, .struct [(0, 42)]⟩
  | 45 => some ⟨[.slice none 0 0], 24, .slice 109⟩
  | 46 => some ⟨[.slice none 0 0], 24, .slice 72⟩
  | 48 => some ⟨[.int .i64 0, .int .i64 0, .int .i64 0, .slice none 0 0], 48, .struct [(0, 3), (1, 3), (2, 3), (3, 42)]⟩
  | 50 => some ⟨[.slice none 0 0, .int .i64 0, .int .i64 0, .int .i64 0, .slice none 0 0], 72, .struct [(0, 46), (1, 48)]⟩
  | 51 => some ⟨[.slice none 0 0], 24, .slice 119⟩
  | 53 => some ⟨[.int .i64 0, .int .i64 0, .int .i64 0], 24, .struct [(0, 3), (1, 3), (2, 3)]⟩
  | 55 => some ⟨[.slice none 0 0, .slice none 0 0, .slice none 0 0, .slice none 0 0, .int .i64 0, .int .i64 0, .int .i64 0, .slice none 0 0, .slice none 0 0, .int .i64 0, .int .i64 0, .int .i64 0, .int .i64 0, .int .i64 0, .int .i64 0, .int .i64 0], 224, .struct [(0, 44), (1, 42), (2, 45), (3, 50), (8, 51), (9, 3), (10, 3), (11, 53), (14, 3), (15, 3)]⟩
  | 62 => some ⟨[.slice none 0 0, .slice none 0 0, .int .i64 0, .int .i64 0, .int .i64 0], 72, .struct [(0, 44), (1, 42), (2, 53)]⟩
  | 70 => some ⟨[.slice none 0 0], 24, .slice 142⟩
  | 72 => some ⟨[.int .i64 0, .int .i64 0, .int .i64 0, .int .i64 0, .int .i64 0, .int .i64 0, .int .i64 0, .int .i64 0, .int .i64 0, .bool false, .slice none 0 0, .slice none 0 0, .slice none 0 0], 152, .struct [(0, 3), (1, 3), (2, 3), (3, 3), (4, 3), (5, 3), (6, 3), (7, 3), (8, 3), (9, 4), (10, 42), (11, 42), (12, 70)]⟩
  | 75 => some ⟨[.slice none 0 0], 24, .slice 4⟩
  | 109 => some ⟨[.bool false, .int .i64 0, .int .i64 0, .int .i64 0, .int .i64 0], 40, .struct [(0, 4), (1, 3), (2, 53)]⟩
  | 115 => some ⟨[.slice none 0 0], 24, .slice 117⟩
  | 117 => some ⟨[.slice none 0 0], 24, .struct [(0, 45)]⟩
  | 119 => some ⟨[.int .i64 0, .int .i64 0, .int .i64 0, .int .i64 0, .int .i64 0, .int .i64 0], 48, .struct [(0, 3), (1, 3), (2, 3), (3, 3), (4, 3), (5, 3)]⟩
  | 135 => some ⟨[.pointer none], 8, .other⟩
  | 137 => some ⟨[.slice none 0 0, .slice none 0 0, .slice none 0 0, .slice none 0 0, .int .i64 0, .int .i64 0, .int .i64 0, .slice none 0 0, .slice none 0 0, .int .i64 0, .int .i64 0, .int .i64 0, .int .i64 0, .int .i64 0, .int .i64 0, .int .i64 0, .int .i64 0, .int .i64 0, .int .i64 0], 248, .struct [(0, 55), (16, 3), (17, 3), (18, 3)]⟩
  | 139 => some ⟨[.pointer none], 8, .other⟩
  | 140 => some ⟨[.pointer none], 8, .other⟩
  | 142 => some ⟨[.int .i64 0, .int .i64 0], 16, .struct [(0, 3), (1, 3)]⟩
  | 151 => some ⟨[.pointer none], 8, .other⟩
  | 166 => some ⟨[.pointer none], 8, .other⟩
  | 178 => some ⟨[.int .u32 0], 4, .int .u32⟩
  | _ => none

set_option maxRecDepth 100000 in
theorem tiOk : TOk Tryz.prog TI := by
  intro t i h
  unfold TI at h
  split at h
  · injection h with h; subst h; exact tyOk_of (by kernel_rfl) ((show _ = _ by kernel_rfl)) (by rfl)
  · injection h with h; subst h; exact tyOk_of (by kernel_rfl) (kd_other (by kernel_rfl)) (by rfl)
  · injection h with h; subst h; exact tyOk_of (by kernel_rfl) ((show _ = _ by kernel_rfl)) (by rfl)
  · injection h with h; subst h; exact tyOk_of (by kernel_rfl) ((show _ = _ by kernel_rfl)) (by rfl)
  · injection h with h; subst h; exact tyOk_of (by kernel_rfl) ((show _ = _ by kernel_rfl)) (by rfl)
  · injection h with h; subst h; exact tyOk_of (by kernel_rfl) ((show _ = _ by kernel_rfl)) (by rfl)
  · injection h with h; subst h; exact tyOk_of (by kernel_rfl) ((show _ = _ by kernel_rfl)) (by rfl)
  · injection h with h; subst h; exact tyOk_of (by kernel_rfl) (kd_struct (by kernel_rfl)) (by rfl)
  · injection h with h; subst h; exact tyOk_of (by kernel_rfl) ((show _ = _ by kernel_rfl)) (by rfl)
  · injection h with h; subst h; exact tyOk_of (by kernel_rfl) (kd_struct (by kernel_rfl)) (by rfl)
  · injection h with h; subst h; exact tyOk_of (by kernel_rfl) (kd_struct (by kernel_rfl)) (by rfl)
  · injection h with h; subst h; exact tyOk_of (by kernel_rfl) ((show _ = _ by kernel_rfl)) (by rfl)
  · injection h with h; subst h; exact tyOk_of (by kernel_rfl) ((show _ = _ by kernel_rfl)) (by rfl)
  · injection h with h; subst h; exact tyOk_of (by kernel_rfl) (kd_struct (by kernel_rfl)) (by rfl)
  · injection h with h; subst h; exact tyOk_of (by kernel_rfl) ((show _ = _ by kernel_rfl)) (by rfl)
  · injection h with h; subst h; exact tyOk_of (by kernel_rfl) ((show _ = _ by kernel_rfl)) (by rfl)
  · injection h with h; subst h; exact tyOk_of (by kernel_rfl) (kd_struct (by kernel_rfl)) (by rfl)
  · injection h with h; subst h; exact tyOk_of (by kernel_rfl) (kd_struct (by kernel_rfl)) (by rfl)
  · injection h with h; subst h; exact tyOk_of (by kernel_rfl) ((show _ = _ by kernel_rfl)) (by rfl)
  · injection h with h; subst h; exact tyOk_of (by kernel_rfl) (kd_struct (by kernel_rfl)) (by rfl)
  · injection h with h; subst h; exact tyOk_of (by kernel_rfl) (kd_struct (by kernel_rfl)) (by rfl)
  · injection h with h; subst h; exact tyOk_of (by kernel_rfl) (kd_struct (by kernel_rfl)) (by rfl)
  · injection h with h; subst h; exact tyOk_of (by kernel_rfl) ((show _ = _ by kernel_rfl)) (by rfl)
  · injection h with h; subst h; exact tyOk_of (by kernel_rfl) (kd_struct (by kernel_rfl)) (by rfl)
  · injection h with h; subst h; exact tyOk_of (by kernel_rfl) ((show _ = _ by kernel_rfl)) (by rfl)
  · injection h with h; subst h; exact tyOk_of (by kernel_rfl) (kd_struct (by kernel_rfl)) (by rfl)
  · injection h with h; subst h; exact tyOk_of (by kernel_rfl) ((show _ = _ by kernel_rfl)) (by rfl)
  · injection h with h; subst h; exact tyOk_of (by kernel_rfl) (kd_struct (by kernel_rfl)) (by rfl)
  · injection h with h; subst h; exact tyOk_of (by kernel_rfl) (kd_struct (by kernel_rfl)) (by rfl)
  · injection h with h; subst h; exact tyOk_of (by kernel_rfl) (kd_other (by kernel_rfl)) (by rfl)
  · injection h with h; subst h; exact tyOk_of (by kernel_rfl) (kd_struct (by kernel_rfl)) (by rfl)
  · injection h with h; subst h; exact tyOk_of (by kernel_rfl) (kd_other (by kernel_rfl)) (by rfl)
  · injection h with h; subst h; exact tyOk_of (by kernel_rfl) (kd_other (by kernel_rfl)) (by rfl)
  · injection h with h; subst h; exact tyOk_of (by kernel_rfl) (kd_struct (by kernel_rfl)) (by rfl)
  · injection h with h; subst h; exact tyOk_of (by kernel_rfl) (kd_other (by kernel_rfl)) (by rfl)
  · injection h with h; subst h; exact tyOk_of (by kernel_rfl) (kd_other (by kernel_rfl)) (by rfl)
  · injection h with h; subst h; exact tyOk_of (by kernel_rfl) ((show _ = _ by kernel_rfl)) (by rfl)
  · cases h

end Go.Proofs.YtiimdlkeikcfiaaGreat.M
