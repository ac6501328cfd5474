/- []Obj: toObjS. -/
import Derived.Test.YtabbncoihmhocaaThingsSz
import Derived.Test.YtabbncoihmhocaaApp
namespace Go.Proofs.Ytabbncoihmhocaa
open Go.RowKit

theorem Try.infoObj : (Try.prog.info? 34).map (fun i => (i.zero, i.size, i.bytes)) = some (some (.agg #[.int .i64 0, .int .i64 0, .int .i64 0, .int .i64 0, .int .i64 0, .int .i64 0, .int .i64 0, .int .i64 0, .int .i64 0, .bool false, .slice none 0 0, .slice none 0 0, .slice none 0 0]), 13, 152) := by kernel_rfl
end Go.Proofs.Ytabbncoihmhocaa
