/-
 Contracts of the library at this program.
-/
import Derived.Test.YtckikkkdabpjkaaGreatProg
import Derived.Shelf.Small.Strs
import Derived.Shelf.Small.Wraps
set_option linter.unusedVariables false
set_option linter.unusedSimpArgs false
set_option linter.unnecessarySimpa false
namespace Go.Proofs.YtckikkkdabpjkaaGreat
open Go.Shelf
open Go.RowKit in
def shelflays106_ren : Go.Shelf.Ren := ⟨fun | 106 => 187 | 213 => 213 | 265 => 238 | n => n, fun | 9 => 9 | 3 => 3 | n => n, fun | n => n⟩
theorem shelflays106 : Go.Proofs.Lays.n106 Tryz.prog shelflays106_ren := {
 mixed := by kernel_rfl
 f106 := Tryz.func187.trans (congrArg some (by kernel_rfl))
 f213 := Tryz.func213.trans (congrArg some (by kernel_rfl))
 f265 := Tryz.func238.trans (congrArg some (by kernel_rfl))
 t3 := Tryz.underlying3
 a3 := Tryz.isAgg3
 z3 := Tryz.sizeOf3
 v3 := Tryz.zeroValue3
 t9 := Tryz.underlying9
 a9 := Tryz.isAgg9
 z9 := Tryz.sizeOf9
 v9 := Tryz.zeroValue9 }
open Go.RowKit in
theorem shelfstrings_Compare (a b : ByteArray) (w : World) :
 Calls Tryz.prog 187 #[.string a, .string b] w fun e w' => e = .returned (.int .i64 (Lib.compareBytes a.data.toList b.data.toList)) ∧ w' = w := Any.strings_Compare shelflays106 a b w
open Go.RowKit in
def shelflays122_ren : Go.Shelf.Ren := ⟨fun | 122 => 186 | 215 => 212 | n => n, fun | 3 => 3 | 4 => 4 | n => n, fun | n => n⟩
theorem shelflays122 : Go.Proofs.Lays.n122 Tryz.prog shelflays122_ren := {
 mixed := by kernel_rfl
 f122 := Tryz.func186.trans (congrArg some (by kernel_rfl))
 f215 := Tryz.func212.trans (congrArg some (by kernel_rfl))
 t3 := Tryz.underlying3
 a3 := Tryz.isAgg3
 z3 := Tryz.sizeOf3
 v3 := Tryz.zeroValue3
 t4 := Tryz.underlying4
 a4 := Tryz.isAgg4
 z4 := Tryz.sizeOf4
 v4 := Tryz.zeroValue4 }
open Go.RowKit in
theorem shelfcmp_Compare_int (x y : Int) (w : World) :
 Calls Tryz.prog 186 #[.int .i64 x, .int .i64 y] w fun e w' => e = .returned (.int .i64 (Lib.compareInt x y)) ∧ w' = w := Any.cmp_Compare_int shelflays122 x y w
end Go.Proofs.YtckikkkdabpjkaaGreat
