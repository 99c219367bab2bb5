/-
  The contracts of slices.SortFunc at this program.
-/
import Derived.Test.YtmmomohapflagaaProg
import Derived.Shelf.SlSortCmp.NoneTotal
import Derived.Shelf.SlGeneric
import Derived.Ground.SlsfProg
import Derived.Test.YtmmomohapflagaaVaG
import Derived.ProofKit
namespace Go.Proofs
open Go.Shelf
def Try.sortSpan_ren : Go.Shelf.Ren := ⟨fun | 6 => 311 | 15 => 308 | 14 => 336 | 28 => 333 | 29 => 334 | 20 => 350 | 21 => 351 | 22 => 352 | 23 => 353 | 24 => 354 | 25 => 355 | 26 => 356 | 27 => 357 | 46 => 365 | 47 => 345 | 48 => 346 | 49 => 366 | 50 => 367 | 57 => 370 | n => n, fun | 22 => 108 | 24 => 104 | 25 => 210 | 3 => 3 | 39 => 191 | 0 => 0 | 53 => 278 | 55 => 164 | 4 => 4 | 46 => 273 | 45 => 272 | 50 => 30 | 5 => 5 | 9 => 9 | 66 => 294 | 70 => 298 | 76 => 310 | 77 => 145 | n => n, fun | n => n⟩
theorem Try.sortSpan : Go.Proofs.SlLaysF0.n6 Try.prog Try.sortSpan_ren := {
  mixed := by kernel_rfl
  f6 := ⟨Try.f311.name, by decide, Try.func311.trans (congrArg some (by kernel_rfl))⟩
  f14 := ⟨Try.f336.name, by decide, Try.func336.trans (congrArg some (by kernel_rfl))⟩
  f15 := Try.func308.trans (congrArg some (by kernel_rfl))
  f20 := ⟨Try.f350.name, by decide, Try.func350.trans (congrArg some (by kernel_rfl))⟩
  f21 := ⟨Try.f351.name, by decide, Try.func351.trans (congrArg some (by kernel_rfl))⟩
  f22 := ⟨Try.f352.name, by decide, Try.func352.trans (congrArg some (by kernel_rfl))⟩
  f23 := ⟨Try.f353.name, by decide, Try.func353.trans (congrArg some (by kernel_rfl))⟩
  f24 := ⟨Try.f354.name, by decide, Try.func354.trans (congrArg some (by kernel_rfl))⟩
  f25 := ⟨Try.f355.name, by decide, Try.func355.trans (congrArg some (by kernel_rfl))⟩
  f26 := ⟨Try.f356.name, by decide, Try.func356.trans (congrArg some (by kernel_rfl))⟩
  f27 := ⟨Try.f357.name, by decide, Try.func357.trans (congrArg some (by kernel_rfl))⟩
  f28 := Try.func333.trans (congrArg some (by kernel_rfl))
  f29 := Try.func334.trans (congrArg some (by kernel_rfl))
  f46 := ⟨Try.f365.name, by decide, Try.func365.trans (congrArg some (by kernel_rfl))⟩
  f47 := Try.func345.trans (congrArg some (by kernel_rfl))
  f48 := Try.func346.trans (congrArg some (by kernel_rfl))
  f49 := ⟨Try.f366.name, by decide, Try.func366.trans (congrArg some (by kernel_rfl))⟩
  f50 := ⟨Try.f367.name, by decide, Try.func367.trans (congrArg some (by kernel_rfl))⟩
  f57 := ⟨Try.f370.name, by decide, Try.func370.trans (congrArg some (by kernel_rfl))⟩
  t0 := Try.underlying0
  a0 := Try.isAgg0
  z0 := Try.sizeOf0
  v0 := Try.zeroValue0
  t3 := Try.underlying3
  a3 := Try.isAgg3
  z3 := Try.sizeOf3
  v3 := Try.zeroValue3
  t4 := Try.underlying4
  a4 := Try.isAgg4
  z4 := Try.sizeOf4
  v4 := Try.zeroValue4
  t5 := Try.underlying5
  a5 := Try.isAgg5
  z5 := Try.sizeOf5
  v5 := Try.zeroValue5
  t9 := Try.underlying9
  a9 := Try.isAgg9
  z9 := Try.sizeOf9
  v9 := Try.zeroValue9
  t22 := Try.underlying108
  a22 := Try.isAgg108
  z22 := Try.sizeOf108
  v22 := Try.zeroValue108
  t25 := Try.underlying210
  a25 := Try.isAgg210
  z25 := Try.sizeOf210
  v25 := Try.zeroValue210
  t39 := Try.underlying191
  a39 := Try.isAgg191
  z39 := Try.sizeOf191
  v39 := Try.zeroValue191
  t45 := Try.underlying272
  a45 := Try.isAgg272
  z45 := Try.sizeOf272
  v45 := Try.zeroValue272
  t46 := Try.underlying273
  a46 := Try.isAgg273
  z46 := Try.sizeOf273
  v46 := Try.zeroValue273
  t50 := Try.underlying30
  a50 := Try.isAgg30
  z50 := Try.sizeOf30
  v50 := Try.zeroValue30
  t53 := Try.underlying278
  a53 := Try.isAgg278
  z53 := Try.sizeOf278
  v53 := Try.zeroValue278
  t55 := Try.underlying164
  a55 := Try.isAgg164
  z55 := Try.sizeOf164
  v55 := Try.zeroValue164
  t66 := Try.underlying294
  a66 := Try.isAgg294
  z66 := Try.sizeOf294
  v66 := Try.zeroValue294
  t70 := Try.underlying298
  a70 := Try.isAgg298
  z70 := Try.sizeOf298
  v70 := Try.zeroValue298
  t76 := Try.underlying310
  a76 := Try.isAgg310
  z76 := Try.sizeOf310
  v76 := Try.zeroValue310
  t77 := Try.underlying145
  a77 := Try.isAgg145
  z77 := Try.sizeOf145
  v77 := Try.zeroValue145 }
end Go.Proofs

namespace Go.Proofs
open Go.Shelf Go.RowKit Go.Lib Go.Sort Go.VS

set_option maxHeartbeats 1000000 in
theorem Try.so_clo (a b c d : Int) (ha : -2305843009213693952 ≤ a ∧ a ≤ 2305843009213693952) (hc : -2305843009213693952 ≤ c ∧ c ≤ 2305843009213693952) (W : World) : Calls Try.prog 312 #[.agg #[.int .i64 a, .int .i64 b], .agg #[.int .i64 c, .int .i64 d]] W fun e w' => e = .returned (.int .i64 (a - c)) ∧ ∃ q os', w' = grow (W.drewN q) os' := by
  have hw : IntKind.i64.wrap (a - c) = a - c := IntWalk.i64_in _ (by omega)
  go_enter Try.func312, Try.ntmps312
  go_wp2
  go_ret
  exact ⟨rfl, 0, _, by rw [alloc_eq_grow, alloc_eq_grow, grow_grow]; rfl⟩
theorem Try.so_cmp (ap off size : Nat) (w : World) : CmpLays Try.prog 312 #[] gI 2 (ke (sz := 2)) ap off size w := by
  intro m os dk _ x y
  obtain ⟨x, hx⟩ := x
  obtain ⟨y, hy⟩ := y
  match x, y, hx, hy with
  | [a, b], [c, d], hx, hy => exact Try.so_clo a b c d hx.2 hy.2 _
theorem Try.so_ok : p9 Try.prog 311 312 2 where
  can := ⟨_, Try.func311, by kernel_rfl, by kernel_rfl⟩
  eq := fun ap off cap d w hH hb hs => AnyQ.slices_SortFunc_eq Try.sortSpan 2 Try.isAgg104 Try.sizeOf104 gI (fun x => by unfold gI; rw [List.length_map, x.2.1]) (fun x v hv => by unfold gI at hv; obtain ⟨n, _, rfl⟩ := List.mem_map.1 hv; rfl) ke (AW 2) 312 #[] ap off cap d w (enters_of Try.func312 (by kernel_rfl) rfl) (Try.so_cmp ap off d.size w) hH hb hs
  none := fun p cap fv w => AnyF.slices_SortFunc_none Try.sortSpan p cap fv w
end Go.Proofs

