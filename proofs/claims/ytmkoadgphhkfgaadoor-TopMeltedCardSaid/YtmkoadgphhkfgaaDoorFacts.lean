/- Closed facts about the loaded program: sizes, zero values, places of fields, which functions have a body. By program. -/
import Derived.Test.YtmkoadgphhkfgaaDoorSlG
import Derived.Test.YtmkoadgphhkfgaaDoorProg
set_option maxRecDepth 100000
namespace Go.Proofs.YtmkoadgphhkfgaaDoor
open Go Sl
theorem ag26 : Aggr Go.Proofs.Tryd.prog 26 5 := ⟨by kernel_rfl, by kernel_rfl⟩
theorem ag38 : Aggr Go.Proofs.Tryd.prog 38 4 := ⟨by kernel_rfl, by kernel_rfl⟩
theorem ca12 : Callable Go.Proofs.Tryd.prog 12 := by unfold Callable; kernel_rfl
theorem ca14 : Callable Go.Proofs.Tryd.prog 14 := by unfold Callable; kernel_rfl
theorem ca30 : Callable Go.Proofs.Tryd.prog 30 := by unfold Callable; kernel_rfl
theorem ca31 : Callable Go.Proofs.Tryd.prog 31 := by unfold Callable; kernel_rfl
theorem ca32 : Callable Go.Proofs.Tryd.prog 32 := by unfold Callable; kernel_rfl
theorem ca33 : Callable Go.Proofs.Tryd.prog 33 := by unfold Callable; kernel_rfl
theorem ca34 : Callable Go.Proofs.Tryd.prog 34 := by unfold Callable; kernel_rfl
theorem ca35 : Callable Go.Proofs.Tryd.prog 35 := by unfold Callable; kernel_rfl
theorem ca36 : Callable Go.Proofs.Tryd.prog 36 := by unfold Callable; kernel_rfl
theorem ca41 : Callable Go.Proofs.Tryd.prog 41 := by unfold Callable; kernel_rfl
theorem ca53 : Callable Go.Proofs.Tryd.prog 53 := by unfold Callable; kernel_rfl
theorem ca54 : Callable Go.Proofs.Tryd.prog 54 := by unfold Callable; kernel_rfl
theorem ca55 : Callable Go.Proofs.Tryd.prog 55 := by unfold Callable; kernel_rfl
theorem ca56 : Callable Go.Proofs.Tryd.prog 56 := by unfold Callable; kernel_rfl
theorem ca69 : Callable Go.Proofs.Tryd.prog 69 := by unfold Callable; kernel_rfl
theorem ca70 : Callable Go.Proofs.Tryd.prog 70 := by unfold Callable; kernel_rfl
theorem ca71 : Callable Go.Proofs.Tryd.prog 71 := by unfold Callable; kernel_rfl
theorem ca72 : Callable Go.Proofs.Tryd.prog 72 := by unfold Callable; kernel_rfl
theorem ca76 : Callable Go.Proofs.Tryd.prog 76 := by unfold Callable; kernel_rfl
theorem fa26_0 : (Go.Proofs.Tryd.prog.underlying 26).bind (fun | .struct fs => (fs[0]?).bind fun f => (Go.Proofs.Tryd.prog.info? f.type).map fun j => (f.offset, j.size == 0) | _ => none) = some (0, false) := by kernel_rfl
theorem fa26_1 : (Go.Proofs.Tryd.prog.underlying 26).bind (fun | .struct fs => (fs[1]?).bind fun f => (Go.Proofs.Tryd.prog.info? f.type).map fun j => (f.offset, j.size == 0) | _ => none) = some (1, false) := by kernel_rfl
theorem fa26_2 : (Go.Proofs.Tryd.prog.underlying 26).bind (fun | .struct fs => (fs[2]?).bind fun f => (Go.Proofs.Tryd.prog.info? f.type).map fun j => (f.offset, j.size == 0) | _ => none) = some (2, false) := by kernel_rfl
theorem fa26_3 : (Go.Proofs.Tryd.prog.underlying 26).bind (fun | .struct fs => (fs[3]?).bind fun f => (Go.Proofs.Tryd.prog.info? f.type).map fun j => (f.offset, j.size == 0) | _ => none) = some (3, false) := by kernel_rfl
theorem fa26_4 : (Go.Proofs.Tryd.prog.underlying 26).bind (fun | .struct fs => (fs[4]?).bind fun f => (Go.Proofs.Tryd.prog.info? f.type).map fun j => (f.offset, j.size == 0) | _ => none) = some (4, false) := by kernel_rfl
theorem fa29_0 : (Go.Proofs.Tryd.prog.underlying 29).bind (fun | .struct fs => (fs[0]?).bind fun f => (Go.Proofs.Tryd.prog.info? f.type).map fun j => (f.offset, j.size == 0) | _ => none) = some (0, false) := by kernel_rfl
theorem fa29_1 : (Go.Proofs.Tryd.prog.underlying 29).bind (fun | .struct fs => (fs[1]?).bind fun f => (Go.Proofs.Tryd.prog.info? f.type).map fun j => (f.offset, j.size == 0) | _ => none) = some (1, false) := by kernel_rfl
theorem fa29_2 : (Go.Proofs.Tryd.prog.underlying 29).bind (fun | .struct fs => (fs[2]?).bind fun f => (Go.Proofs.Tryd.prog.info? f.type).map fun j => (f.offset, j.size == 0) | _ => none) = some (2, false) := by kernel_rfl
theorem fa29_3 : (Go.Proofs.Tryd.prog.underlying 29).bind (fun | .struct fs => (fs[3]?).bind fun f => (Go.Proofs.Tryd.prog.info? f.type).map fun j => (f.offset, j.size == 0) | _ => none) = some (3, false) := by kernel_rfl
theorem fa29_4 : (Go.Proofs.Tryd.prog.underlying 29).bind (fun | .struct fs => (fs[4]?).bind fun f => (Go.Proofs.Tryd.prog.info? f.type).map fun j => (f.offset, j.size == 0) | _ => none) = some (4, false) := by kernel_rfl
theorem fa38_0 : (Go.Proofs.Tryd.prog.underlying 38).bind (fun | .struct fs => (fs[0]?).bind fun f => (Go.Proofs.Tryd.prog.info? f.type).map fun j => (f.offset, j.size == 0) | _ => none) = some (0, false) := by kernel_rfl
theorem fa38_1 : (Go.Proofs.Tryd.prog.underlying 38).bind (fun | .struct fs => (fs[1]?).bind fun f => (Go.Proofs.Tryd.prog.info? f.type).map fun j => (f.offset, j.size == 0) | _ => none) = some (1, false) := by kernel_rfl
theorem fa38_2 : (Go.Proofs.Tryd.prog.underlying 38).bind (fun | .struct fs => (fs[2]?).bind fun f => (Go.Proofs.Tryd.prog.info? f.type).map fun j => (f.offset, j.size == 0) | _ => none) = some (2, false) := by kernel_rfl
theorem fa38_3 : (Go.Proofs.Tryd.prog.underlying 38).bind (fun | .struct fs => (fs[3]?).bind fun f => (Go.Proofs.Tryd.prog.info? f.type).map fun j => (f.offset, j.size == 0) | _ => none) = some (3, false) := by kernel_rfl
theorem if26 : IntFields Go.Proofs.Tryd.prog 26 5 := ⟨_, Go.Proofs.Tryd.underlying26, by kernel_rfl, by kernel_rfl, rfl, by kernel_rfl⟩
theorem pl26 : Places Go.Proofs.Tryd.prog 26 [(0, 1), (1, 1), (2, 1), (3, 1), (4, 1)] := ⟨_, Go.Proofs.Tryd.underlying26, by kernel_rfl⟩
theorem pl38 : Places Go.Proofs.Tryd.prog 38 [(0, 1), (1, 1), (2, 1), (3, 1)] := ⟨_, Go.Proofs.Tryd.underlying38, by kernel_rfl⟩
theorem sc24 : Scal Go.Proofs.Tryd.prog 24 := ⟨by kernel_rfl, by kernel_rfl⟩
theorem sc3 : Scal Go.Proofs.Tryd.prog 3 := ⟨by kernel_rfl, by kernel_rfl⟩
theorem sc30 : Scal Go.Proofs.Tryd.prog 30 := ⟨by kernel_rfl, by kernel_rfl⟩
theorem sc5 : Scal Go.Proofs.Tryd.prog 5 := ⟨by kernel_rfl, by kernel_rfl⟩
theorem sz26 : (Go.Proofs.Tryd.prog.info? 26).map (·.size) = some 5 := by kernel_rfl
theorem sz3 : (Go.Proofs.Tryd.prog.info? 3).map (·.size) = some 1 := by kernel_rfl
theorem sz38 : (Go.Proofs.Tryd.prog.info? 38).map (·.size) = some 4 := by kernel_rfl
theorem sz5 : (Go.Proofs.Tryd.prog.info? 5).map (·.size) = some 1 := by kernel_rfl
theorem ze26 : TyZ Go.Proofs.Tryd.prog 26 (.agg #[(.int .i64 0), (.int .i64 0), (.int .i64 0), (.int .i64 0), (.int .i64 0)]) 5 40 := by unfold TyZ; kernel_rfl
theorem ze3 : TyZ Go.Proofs.Tryd.prog 3 (.int .i64 0) 1 8 := by unfold TyZ; kernel_rfl
theorem ze38 : TyZ Go.Proofs.Tryd.prog 38 (.agg #[(.int .i64 0), (.int .i64 0), (.slice none 0 0), (.slice none 0 0)]) 4 64 := by unfold TyZ; kernel_rfl
end Go.Proofs.YtmkoadgphhkfgaaDoor
