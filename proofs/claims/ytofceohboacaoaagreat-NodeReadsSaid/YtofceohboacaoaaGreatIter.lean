/-
  DERIVED: THE SHELF's CONTRACTS AT THIS DUMP, IN PLAIN WORDS (tools/lay-plain.mjs out of 'YtofceohboacaoaaGreatIter.lean', which tools/lay-shelf.mjs wrote): THE SAME DECLARATIONS UNDER THE SAME NAMES: 'import', 'namespace', 'open', 'def', 'theorem' AND NOTHING ELSE: no command of the shelf's: FOR A HAND-IN. Each laying: the table of numbers ('.._ren') and one theorem, a field a fact of the dump's own or the kernel's comparison; each contract: ONE APPLICATION.
-/
import Derived.Shelf.SlIter.Nil
import Derived.Shelf.SortM.Plain
import Derived.Shelf.SortM.SortNone
import Derived.Test.YtofceohboacaoaaGreatProg
namespace Go.Proofs
open Go.Shelf
def Tryz.keys196_ren : Go.Shelf.Ren := ⟨fun | 7 => 196 | 10 => 215 | n => n, fun | 23 => 96 | 26 => 9 | 3 => 102 | 28 => 256 | 0 => 0 | 27 => 255 | 33 => 277 | 4 => 4 | n => n, fun | n => n⟩
theorem Tryz.keys196 : Go.Proofs.SlLaysZ.n7 Tryz.prog Tryz.keys196_ren := {
  mixed := by kernel_rfl
  f7 := ⟨Tryz.f196.name, by decide, Tryz.func196.trans (congrArg some (by kernel_rfl))⟩
  f10 := ⟨Tryz.f215.name, by decide, Tryz.func215.trans (congrArg some (by kernel_rfl))⟩
  t0 := Tryz.underlying0
  a0 := Tryz.isAgg0
  z0 := Tryz.sizeOf0
  v0 := Tryz.zeroValue0
  t4 := Tryz.underlying4
  a4 := Tryz.isAgg4
  z4 := Tryz.sizeOf4
  v4 := Tryz.zeroValue4
  t23 := Tryz.underlying96
  a23 := Tryz.isAgg96
  z23 := Tryz.sizeOf96
  v23 := Tryz.zeroValue96
  t26 := Tryz.underlying9
  a26 := Tryz.isAgg9
  z26 := Tryz.sizeOf9
  v26 := Tryz.zeroValue9
  t27 := Tryz.underlying255
  a27 := Tryz.isAgg255
  z27 := Tryz.sizeOf255
  v27 := Tryz.zeroValue255
  t28 := Tryz.underlying256
  a28 := Tryz.isAgg256
  z28 := Tryz.sizeOf256
  v28 := Tryz.zeroValue256
  t33 := Tryz.underlying277
  a33 := Tryz.isAgg277
  z33 := Tryz.sizeOf277
  v33 := Tryz.zeroValue277 }
def Tryz.sorted195_ren : Go.Shelf.Ren := ⟨fun | 6 => 195 | 8 => 213 | 9 => 214 | 11 => 219 | 13 => 221 | 12 => 220 | 23 => 232 | 24 => 233 | 14 => 223 | 15 => 224 | 16 => 225 | 17 => 226 | 18 => 227 | 19 => 228 | 20 => 229 | 21 => 230 | 22 => 231 | 25 => 234 | 26 => 235 | 27 => 236 | 28 => 237 | 29 => 238 | 30 => 239 | 31 => 240 | n => n, fun | 26 => 9 | 28 => 256 | 24 => 50 | 0 => 0 | 3 => 3 | 37 => 144 | 48 => 297 | 50 => 106 | 4 => 4 | 40 => 290 | 39 => 289 | 45 => 76 | 5 => 5 | 9 => 9 | 51 => 299 | 55 => 303 | 57 => 305 | 58 => 306 | 33 => 277 | n => n, fun | n => n⟩
theorem Tryz.sorted195 : Go.Proofs.SlLaysZ.n6 Tryz.prog Tryz.sorted195_ren := {
  mixed := by kernel_rfl
  f6 := ⟨Tryz.f195.name, by decide, Tryz.func195.trans (congrArg some (by kernel_rfl))⟩
  f8 := ⟨Tryz.f213.name, by decide, Tryz.func213.trans (congrArg some (by kernel_rfl))⟩
  f11 := ⟨Tryz.f219.name, by decide, Tryz.func219.trans (congrArg some (by kernel_rfl))⟩
  t0 := Tryz.underlying0
  a0 := Tryz.isAgg0
  z0 := Tryz.sizeOf0
  v0 := Tryz.zeroValue0
  t24 := Tryz.underlying50
  a24 := Tryz.isAgg50
  z24 := Tryz.sizeOf50
  v24 := Tryz.zeroValue50
  t26 := Tryz.underlying9
  a26 := Tryz.isAgg9
  z26 := Tryz.sizeOf9
  v26 := Tryz.zeroValue9
  t28 := Tryz.underlying256
  a28 := Tryz.isAgg256
  z28 := Tryz.sizeOf256
  v28 := Tryz.zeroValue256
  i26 := by kernel_rfl }
def Tryz.sort214_ren : Go.Shelf.Ren := ⟨fun | 6 => 214 | 8 => 221 | 9 => 220 | 19 => 232 | 20 => 233 | 21 => 223 | 22 => 224 | 23 => 225 | 24 => 226 | 25 => 227 | 26 => 228 | 27 => 229 | 28 => 230 | 29 => 231 | 36 => 234 | 31 => 235 | 32 => 236 | 37 => 237 | 38 => 238 | 39 => 239 | 41 => 240 | n => n, fun | 27 => 50 | 29 => 9 | 3 => 3 | 32 => 144 | 26 => 50 | 0 => 0 | 44 => 297 | 46 => 106 | 4 => 4 | 36 => 290 | 35 => 289 | 41 => 76 | 5 => 5 | 9 => 9 | 53 => 299 | 57 => 303 | 63 => 305 | 64 => 306 | n => n, fun | n => n⟩
theorem Tryz.sort214 : Go.Proofs.SlLaysM.n6 Tryz.prog Tryz.sort214_ren := {
  mixed := by kernel_rfl
  f6 := ⟨Tryz.f214.name, by decide, Tryz.func214.trans (congrArg some (by kernel_rfl))⟩
  f8 := Tryz.func221.trans (congrArg some (by kernel_rfl))
  f9 := ⟨Tryz.f220.name, by decide, Tryz.func220.trans (congrArg some (by kernel_rfl))⟩
  f19 := Tryz.func232.trans (congrArg some (by kernel_rfl))
  f20 := Tryz.func233.trans (congrArg some (by kernel_rfl))
  f21 := ⟨Tryz.f223.name, by decide, Tryz.func223.trans (congrArg some (by kernel_rfl))⟩
  f22 := ⟨Tryz.f224.name, by decide, Tryz.func224.trans (congrArg some (by kernel_rfl))⟩
  f23 := ⟨Tryz.f225.name, by decide, Tryz.func225.trans (congrArg some (by kernel_rfl))⟩
  f24 := ⟨Tryz.f226.name, by decide, Tryz.func226.trans (congrArg some (by kernel_rfl))⟩
  f25 := ⟨Tryz.f227.name, by decide, Tryz.func227.trans (congrArg some (by kernel_rfl))⟩
  f26 := ⟨Tryz.f228.name, by decide, Tryz.func228.trans (congrArg some (by kernel_rfl))⟩
  f27 := ⟨Tryz.f229.name, by decide, Tryz.func229.trans (congrArg some (by kernel_rfl))⟩
  f28 := ⟨Tryz.f230.name, by decide, Tryz.func230.trans (congrArg some (by kernel_rfl))⟩
  f29 := ⟨Tryz.f231.name, by decide, Tryz.func231.trans (congrArg some (by kernel_rfl))⟩
  f31 := Tryz.func235.trans (congrArg some (by kernel_rfl))
  f32 := Tryz.func236.trans (congrArg some (by kernel_rfl))
  f36 := ⟨Tryz.f234.name, by decide, Tryz.func234.trans (congrArg some (by kernel_rfl))⟩
  f37 := ⟨Tryz.f237.name, by decide, Tryz.func237.trans (congrArg some (by kernel_rfl))⟩
  f38 := ⟨Tryz.f238.name, by decide, Tryz.func238.trans (congrArg some (by kernel_rfl))⟩
  f39 := ⟨Tryz.f239.name, by decide, Tryz.func239.trans (congrArg some (by kernel_rfl))⟩
  f41 := ⟨Tryz.f240.name, by decide, Tryz.func240.trans (congrArg some (by kernel_rfl))⟩
  t0 := Tryz.underlying0
  a0 := Tryz.isAgg0
  z0 := Tryz.sizeOf0
  v0 := Tryz.zeroValue0
  t3 := Tryz.underlying3
  a3 := Tryz.isAgg3
  z3 := Tryz.sizeOf3
  v3 := Tryz.zeroValue3
  t4 := Tryz.underlying4
  a4 := Tryz.isAgg4
  z4 := Tryz.sizeOf4
  v4 := Tryz.zeroValue4
  t5 := Tryz.underlying5
  a5 := Tryz.isAgg5
  z5 := Tryz.sizeOf5
  v5 := Tryz.zeroValue5
  t9 := Tryz.underlying9
  a9 := Tryz.isAgg9
  z9 := Tryz.sizeOf9
  v9 := Tryz.zeroValue9
  t26 := Tryz.underlying50
  a26 := Tryz.isAgg50
  z26 := Tryz.sizeOf50
  v26 := Tryz.zeroValue50
  t27 := Tryz.underlying50
  a27 := Tryz.isAgg50
  z27 := Tryz.sizeOf50
  v27 := Tryz.zeroValue50
  t29 := Tryz.underlying9
  a29 := Tryz.isAgg9
  z29 := Tryz.sizeOf9
  v29 := Tryz.zeroValue9
  t32 := Tryz.underlying144
  a32 := Tryz.isAgg144
  z32 := Tryz.sizeOf144
  v32 := Tryz.zeroValue144
  t35 := Tryz.underlying289
  a35 := Tryz.isAgg289
  z35 := Tryz.sizeOf289
  v35 := Tryz.zeroValue289
  t36 := Tryz.underlying290
  a36 := Tryz.isAgg290
  z36 := Tryz.sizeOf290
  v36 := Tryz.zeroValue290
  t41 := Tryz.underlying76
  a41 := Tryz.isAgg76
  z41 := Tryz.sizeOf76
  v41 := Tryz.zeroValue76
  t44 := Tryz.underlying297
  a44 := Tryz.isAgg297
  z44 := Tryz.sizeOf297
  v44 := Tryz.zeroValue297
  t46 := Tryz.underlying106
  a46 := Tryz.isAgg106
  z46 := Tryz.sizeOf106
  v46 := Tryz.zeroValue106
  t53 := Tryz.underlying299
  a53 := Tryz.isAgg299
  z53 := Tryz.sizeOf299
  v53 := Tryz.zeroValue299
  t57 := Tryz.underlying303
  a57 := Tryz.isAgg303
  z57 := Tryz.sizeOf303
  v57 := Tryz.zeroValue303
  t63 := Tryz.underlying305
  a63 := Tryz.isAgg305
  z63 := Tryz.sizeOf305
  v63 := Tryz.zeroValue305
  t64 := Tryz.underlying306
  a64 := Tryz.isAgg306
  z64 := Tryz.sizeOf306
  v64 := Tryz.zeroValue306 }
open Go.RowKit Go.Maps Go.Sort Go.Shelf in
theorem Tryz.sorts195 (m : Nat) : AnyZ.SortsIn Tryz.prog Tryz.sorted195_ren Fence.wide m :=
  ⟨fun blk off cap ss W hH hblk hsz => callsIn_wide.2 (AnyM.slices_Sort_string Tryz.sort214 blk off cap ss W hH hblk hsz),
   fun p cap W => callsIn_wide.2 (AnyM.slices_Sort_string_none Tryz.sort214 p cap W)⟩
open Go.RowKit Go.Maps Go.Sort Go.Shelf in
theorem Tryz.sorted_at {H : Type} (Bm b nn : Nat) (D0 : DataW H) (R : Value → Option (DataW H × List MemPlace)) (w : World) (hBm : Bm < w.heap.size) (hm : w.cell? ⟨Bm, 0, none⟩ = some (.map (some b))) (hown : w.ownsMap Tryz.prog 9 R b nn D0) (hmax : Maps.size D0 ≤ maxLen) (hbytes : Maps.size D0 * 16 ≤ 140737488355328) :
    Calls Tryz.prog 195 #[.func (.func 215) #[] #[.pointer (some ⟨Bm, 0, none⟩)]] w fun e w' => ∃ (v : Value) (ss : List (List UInt8)), e = .returned v ∧ ss.Perm (strKeys D0) ∧
      w'.ownsRow w.heap.size 9 1 v ss.length ((ss.mergeSort (fun x y => decide (x ≤ y))).map encStr) ∧ (v = .slice none 0 0 ↔ ss = []) ∧ Below w.heap.size w w' :=
  callsIn_wide.1 (AnyZ.sorted_in Tryz.sorted195 Fence.wide 5 trivial trivial trivial trivial rfl (by omega) (Tryz.sorts195 _) (enters_of Tryz.func214 (by kernel_rfl) rfl) 215 #[.pointer (some ⟨Bm, 0, none⟩)] trivial (enters_of Tryz.func215 (by kernel_rfl) rfl) _ _ hmax hbytes w
    (AnyZ.keys_gives (ρ := Tryz.keys196_ren) { Tryz.keys196 with } Fence.wide _ trivial rfl (by omega) Bm b nn D0 _ hBm hm hown))
end Go.Proofs
