/- The shelf's strings.Join laid at this program (the seat with laid rows) (printed by a scratch run of the shelf's command). -/
import Derived.Test.YthomdggbmjknnaaDoorProg
import Derived.Test.YthomdggbmjknnaaDoorBase
import Derived.Shelf.Lays
import Derived.Shelf.Strings.OnBuilder
namespace Go.Proofs.YthomdggbmjknnaaDoor
open Go.Shelf Go.RowKit
def lays156_ren : Go.Shelf.Ren := ⟨fun | 156 => 51 | 165 => 65 | 166 => 66 | 169 => 67 | 240 => 82 | 241 => 83 | 276 => 95 | 277 => 96 | n => n, fun | 31 => 55 | 9 => 9 | 3 => 3 | 4 => 4 | 0 => 0 | 20 => 20 | 72 => 80 | 76 => 82 | 70 => 78 | 37 => 62 | 75 => 52 | 127 => 101 | 164 => 112 | 5 => 5 | 80 => 84 | n => n, fun | n => n⟩
theorem lays156 : Go.Proofs.Lays.n156 Tryd.prog lays156_ren :=
  { mixed := by kernel_rfl,
    f156 := Tryd.func51.trans (congrArg some (by kernel_rfl)),
    f165 := Tryd.func65.trans (congrArg some (by kernel_rfl)),
    f166 := Tryd.func66.trans (congrArg some (by kernel_rfl)),
    f169 := Tryd.func67.trans (congrArg some (by kernel_rfl)),
    f240 := Tryd.func82.trans (congrArg some (by kernel_rfl)),
    f241 := Tryd.func83.trans (congrArg some (by kernel_rfl)),
    f276 := Tryd.func95.trans (congrArg some (by kernel_rfl)),
    f277 := Tryd.func96.trans (congrArg some (by kernel_rfl)),
    t0 := Tryd.underlying0,
    a0 := Tryd.isAgg0,
    z0 := Tryd.sizeOf0,
    v0 := Tryd.zeroValue0,
    t3 := Tryd.underlying3,
    a3 := Tryd.isAgg3,
    z3 := Tryd.sizeOf3,
    v3 := Tryd.zeroValue3,
    t4 := Tryd.underlying4,
    a4 := Tryd.isAgg4,
    z4 := Tryd.sizeOf4,
    v4 := Tryd.zeroValue4,
    t9 := Tryd.underlying9,
    a9 := Tryd.isAgg9,
    z9 := Tryd.sizeOf9,
    v9 := Tryd.zeroValue9,
    t20 := Tryd.underlying20,
    a20 := Tryd.isAgg20,
    z20 := Tryd.sizeOf20,
    v20 := Tryd.zeroValue20,
    t31 := Tryd.underlying55,
    a31 := Tryd.isAgg55,
    z31 := Tryd.sizeOf55,
    v31 := Tryd.zeroValue55,
    t37 := Tryd.underlying62,
    a37 := Tryd.isAgg62,
    z37 := Tryd.sizeOf62,
    v37 := Tryd.zeroValue62,
    t70 := Tryd.underlying78,
    a70 := Tryd.isAgg78,
    z70 := Tryd.sizeOf78,
    v70 := Tryd.zeroValue78,
    t72 := Tryd.underlying80,
    a72 := Tryd.isAgg80,
    z72 := Tryd.sizeOf80,
    v72 := Tryd.zeroValue80,
    t75 := Tryd.underlying52,
    a75 := Tryd.isAgg52,
    z75 := Tryd.sizeOf52,
    v75 := Tryd.zeroValue52,
    t76 := Tryd.underlying82,
    a76 := Tryd.isAgg82,
    z76 := Tryd.sizeOf82,
    v76 := Tryd.zeroValue82,
    t127 := Tryd.underlying101,
    a127 := Tryd.isAgg101,
    z127 := Tryd.sizeOf101,
    v127 := Tryd.zeroValue101,
    t164 := Tryd.underlying112,
    a164 := Tryd.isAgg112,
    z164 := Tryd.sizeOf112,
    v164 := Tryd.zeroValue112 }
theorem laysB : Builder.Extra Tryd.prog lays156_ren :=
  { sizeBuilder := by kernel_rfl, liesBuilder := by kernel_rfl, t5 := Tryd.underlying5, a5 := Tryd.isAgg5, z5 := Tryd.sizeOf5, v5 := Tryd.zeroValue5,
    infoByte := by kernel_rfl, cellsByte := by kernel_rfl, sizeByte := by kernel_rfl, neB5 := by decide }
theorem strJoin (bk o c : Nat) (xs : List ByteArray) (sep : ByteArray) (w : World)
    (hcells : ∀ (j : Nat) x, xs[j]? = some x → w.cell? ⟨bk, o + j, none⟩ = some (.string x))
    (hbk : bk < w.heap.size) (hN : xs.length ≤ 140737488355328) (hcap : xs.length ≤ c)
    (hlen : (Lib.join (xs.map (·.data.toList)) sep.data.toList).length ≤ 140737488355328) :
    Calls Tryd.prog 51 #[.slice (some ⟨bk, o, none⟩) xs.length c, .string sep] w fun e w' => e = .returned (.string ⟨(Lib.join (xs.map (·.data.toList)) sep.data.toList).toArray⟩) ∧ Below w.heap.size w w' :=
  Any.strings_Join lays156 laysB bk o c xs sep w hcells hbk hN hcap hlen
end Go.Proofs.YthomdggbmjknnaaDoor
