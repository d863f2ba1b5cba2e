/- The shelf's strings.Join laid at this program (printed by a scratch run of the shelf's command). -/
import Derived.Test.YthomdggbmjknnaaProg
import Derived.Test.YthomdggbmjknnaaBase
import Derived.Shelf.Lays
import Derived.Shelf.Strings.OnBuilder
namespace Go.Proofs.Ythomdggbmjknnaa
open Go.Shelf Go.RowKit
def lays156_ren : Go.Shelf.Ren := ⟨fun | 156 => 60 | 165 => 72 | 166 => 73 | 169 => 74 | 240 => 79 | 241 => 80 | 276 => 81 | 277 => 82 | n => n, fun | 31 => 67 | 9 => 9 | 3 => 3 | 4 => 4 | 0 => 0 | 20 => 20 | 72 => 85 | 76 => 89 | 70 => 83 | 37 => 22 | 75 => 88 | 127 => 96 | 164 => 97 | 5 => 5 | 80 => 91 | n => n, fun | n => n⟩
theorem lays156 : Go.Proofs.Lays.n156 Try.prog lays156_ren :=
  { mixed := by kernel_rfl,
    f156 := Try.func60.trans (congrArg some (by kernel_rfl)),
    f165 := Try.func72.trans (congrArg some (by kernel_rfl)),
    f166 := Try.func73.trans (congrArg some (by kernel_rfl)),
    f169 := Try.func74.trans (congrArg some (by kernel_rfl)),
    f240 := Try.func79.trans (congrArg some (by kernel_rfl)),
    f241 := Try.func80.trans (congrArg some (by kernel_rfl)),
    f276 := Try.func81.trans (congrArg some (by kernel_rfl)),
    f277 := Try.func82.trans (congrArg some (by kernel_rfl)),
    t0 := Try.underlying0,
    a0 := Try.isAgg0,
    z0 := Try.sizeOf0,
    v0 := Try.zeroValue0,
    t3 := Try.underlying3,
    a3 := Try.isAgg3,
    z3 := Try.sizeOf3,
    v3 := Try.zeroValue3,
    t4 := Try.underlying4,
    a4 := Try.isAgg4,
    z4 := Try.sizeOf4,
    v4 := Try.zeroValue4,
    t9 := Try.underlying9,
    a9 := Try.isAgg9,
    z9 := Try.sizeOf9,
    v9 := Try.zeroValue9,
    t20 := Try.underlying20,
    a20 := Try.isAgg20,
    z20 := Try.sizeOf20,
    v20 := Try.zeroValue20,
    t31 := Try.underlying67,
    a31 := Try.isAgg67,
    z31 := Try.sizeOf67,
    v31 := Try.zeroValue67,
    t37 := Try.underlying22,
    a37 := Try.isAgg22,
    z37 := Try.sizeOf22,
    v37 := Try.zeroValue22,
    t70 := Try.underlying83,
    a70 := Try.isAgg83,
    z70 := Try.sizeOf83,
    v70 := Try.zeroValue83,
    t72 := Try.underlying85,
    a72 := Try.isAgg85,
    z72 := Try.sizeOf85,
    v72 := Try.zeroValue85,
    t75 := Try.underlying88,
    a75 := Try.isAgg88,
    z75 := Try.sizeOf88,
    v75 := Try.zeroValue88,
    t76 := Try.underlying89,
    a76 := Try.isAgg89,
    z76 := Try.sizeOf89,
    v76 := Try.zeroValue89,
    t127 := Try.underlying96,
    a127 := Try.isAgg96,
    z127 := Try.sizeOf96,
    v127 := Try.zeroValue96,
    t164 := Try.underlying97,
    a164 := Try.isAgg97,
    z164 := Try.sizeOf97,
    v164 := Try.zeroValue97 }
theorem laysB : Builder.Extra Try.prog lays156_ren :=
  { sizeBuilder := by kernel_rfl, liesBuilder := by kernel_rfl, t5 := Try.underlying5, a5 := Try.isAgg5, z5 := Try.sizeOf5, v5 := Try.zeroValue5,
    infoByte := by kernel_rfl, cellsByte := by kernel_rfl, sizeByte := by kernel_rfl, neB5 := by decide }
theorem strJoin (bk o c : Nat) (xs : List ByteArray) (sep : ByteArray) (w : World)
    (hcells : ∀ (j : Nat) x, xs[j]? = some x → w.cell? ⟨bk, o + j, none⟩ = some (.string x))
    (hbk : bk < w.heap.size) (hN : xs.length ≤ 140737488355328) (hcap : xs.length ≤ c)
    (hlen : (Lib.join (xs.map (·.data.toList)) sep.data.toList).length ≤ 140737488355328) :
    Calls Try.prog 60 #[.slice (some ⟨bk, o, none⟩) xs.length c, .string sep] w fun e w' => e = .returned (.string ⟨(Lib.join (xs.map (·.data.toList)) sep.data.toList).toArray⟩) ∧ Below w.heap.size w w' :=
  Any.strings_Join lays156 laysB bk o c xs sep w hcells hbk hN hcap hlen
end Go.Proofs.Ythomdggbmjknnaa
