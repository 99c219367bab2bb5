/-
  The contracts of slices.SortFunc at this program.
-/
import Derived.Test.YtclgbpneokeaeaaProg
import Derived.Shelf.SlSortCmp.NoneTotal
import Derived.Shelf.SlGeneric
import Derived.Ground.SlsfProg
import Derived.Shelf.Strings.Repeat
import Derived.Test.YtclgbpneokeaeaaVaG
import Derived.ProofKit
namespace Go.Proofs
open Go.Shelf
def Try.sortSpan_ren : Go.Shelf.Ren := ⟨fun | 6 => 147 | 15 => 130 | 14 => 171 | 28 => 160 | 29 => 161 | 20 => 185 | 21 => 186 | 22 => 187 | 23 => 188 | 24 => 189 | 25 => 190 | 26 => 191 | 27 => 192 | 46 => 197 | 47 => 174 | 48 => 175 | 49 => 198 | 50 => 199 | 57 => 200 | n => n, fun | 22 => 53 | 24 => 109 | 25 => 144 | 3 => 3 | 39 => 133 | 0 => 0 | 53 => 154 | 55 => 79 | 4 => 4 | 46 => 149 | 45 => 148 | 50 => 26 | 5 => 5 | 9 => 9 | 66 => 171 | 70 => 175 | 76 => 189 | 77 => 67 | n => n, fun | n => n⟩
theorem Try.sortSpan : Go.Proofs.SlLaysF0.n6 Try.prog Try.sortSpan_ren := {
  mixed := by kernel_rfl
  f6 := ⟨Try.f147.name, by decide, Try.func147.trans (congrArg some (by kernel_rfl))⟩
  f14 := ⟨Try.f171.name, by decide, Try.func171.trans (congrArg some (by kernel_rfl))⟩
  f15 := Try.func130.trans (congrArg some (by kernel_rfl))
  f20 := ⟨Try.f185.name, by decide, Try.func185.trans (congrArg some (by kernel_rfl))⟩
  f21 := ⟨Try.f186.name, by decide, Try.func186.trans (congrArg some (by kernel_rfl))⟩
  f22 := ⟨Try.f187.name, by decide, Try.func187.trans (congrArg some (by kernel_rfl))⟩
  f23 := ⟨Try.f188.name, by decide, Try.func188.trans (congrArg some (by kernel_rfl))⟩
  f24 := ⟨Try.f189.name, by decide, Try.func189.trans (congrArg some (by kernel_rfl))⟩
  f25 := ⟨Try.f190.name, by decide, Try.func190.trans (congrArg some (by kernel_rfl))⟩
  f26 := ⟨Try.f191.name, by decide, Try.func191.trans (congrArg some (by kernel_rfl))⟩
  f27 := ⟨Try.f192.name, by decide, Try.func192.trans (congrArg some (by kernel_rfl))⟩
  f28 := Try.func160.trans (congrArg some (by kernel_rfl))
  f29 := Try.func161.trans (congrArg some (by kernel_rfl))
  f46 := ⟨Try.f197.name, by decide, Try.func197.trans (congrArg some (by kernel_rfl))⟩
  f47 := Try.func174.trans (congrArg some (by kernel_rfl))
  f48 := Try.func175.trans (congrArg some (by kernel_rfl))
  f49 := ⟨Try.f198.name, by decide, Try.func198.trans (congrArg some (by kernel_rfl))⟩
  f50 := ⟨Try.f199.name, by decide, Try.func199.trans (congrArg some (by kernel_rfl))⟩
  f57 := ⟨Try.f200.name, by decide, Try.func200.trans (congrArg some (by kernel_rfl))⟩
  t0 := Try.underlying0
  a0 := Try.isAgg0
  z0 := Try.sizeOf0
  v0 := Try.zeroValue0
  t3 := Try.underlying3
  a3 := Try.isAgg3
  z3 := Try.sizeOf3
  v3 := Try.zeroValue3
  t4 := Try.underlying4
  a4 := Try.isAgg4
  z4 := Try.sizeOf4
  v4 := Try.zeroValue4
  t5 := Try.underlying5
  a5 := Try.isAgg5
  z5 := Try.sizeOf5
  v5 := Try.zeroValue5
  t9 := Try.underlying9
  a9 := Try.isAgg9
  z9 := Try.sizeOf9
  v9 := Try.zeroValue9
  t22 := Try.underlying53
  a22 := Try.isAgg53
  z22 := Try.sizeOf53
  v22 := Try.zeroValue53
  t25 := Try.underlying144
  a25 := Try.isAgg144
  z25 := Try.sizeOf144
  v25 := Try.zeroValue144
  t39 := Try.underlying133
  a39 := Try.isAgg133
  z39 := Try.sizeOf133
  v39 := Try.zeroValue133
  t45 := Try.underlying148
  a45 := Try.isAgg148
  z45 := Try.sizeOf148
  v45 := Try.zeroValue148
  t46 := Try.underlying149
  a46 := Try.isAgg149
  z46 := Try.sizeOf149
  v46 := Try.zeroValue149
  t50 := Try.underlying26
  a50 := Try.isAgg26
  z50 := Try.sizeOf26
  v50 := Try.zeroValue26
  t53 := Try.underlying154
  a53 := Try.isAgg154
  z53 := Try.sizeOf154
  v53 := Try.zeroValue154
  t55 := Try.underlying79
  a55 := Try.isAgg79
  z55 := Try.sizeOf79
  v55 := Try.zeroValue79
  t66 := Try.underlying171
  a66 := Try.isAgg171
  z66 := Try.sizeOf171
  v66 := Try.zeroValue171
  t70 := Try.underlying175
  a70 := Try.isAgg175
  z70 := Try.sizeOf175
  v70 := Try.zeroValue175
  t76 := Try.underlying189
  a76 := Try.isAgg189
  z76 := Try.sizeOf189
  v76 := Try.zeroValue189
  t77 := Try.underlying67
  a77 := Try.isAgg67
  z77 := Try.sizeOf67
  v77 := Try.zeroValue67 }
end Go.Proofs

namespace Go.Proofs
open Go.Shelf
def Try.rep_ren : Go.Shelf.Ren := ⟨fun | 105 => 131 | 212 => 162 | 99 => 163 | 165 => 164 | 166 => 165 | 170 => 166 | 169 => 167 | 263 => 179 | 264 => 180 | 206 => 181 | 240 => 182 | 241 => 183 | 276 => 195 | 277 => 196 | n => n, fun | 9 => 9 | 3 => 3 | 4 => 4 | 20 => 20 | 0 => 0 | 46 => 133 | 109 => 156 | 5 => 5 | 72 => 161 | 76 => 165 | 51 => 154 | 146 => 177 | 53 => 79 | 148 => 179 | 70 => 159 | 37 => 22 | 75 => 164 | 127 => 181 | 164 => 191 | 80 => 102 | n => n, fun | n => n⟩
theorem Try.rep : Go.Proofs.Lays.n105 Try.prog Try.rep_ren := {
  mixed := by kernel_rfl
  f99 := Try.func163.trans (congrArg some (by kernel_rfl))
  f105 := Try.func131.trans (congrArg some (by kernel_rfl))
  f165 := Try.func164.trans (congrArg some (by kernel_rfl))
  f166 := Try.func165.trans (congrArg some (by kernel_rfl))
  f169 := Try.func167.trans (congrArg some (by kernel_rfl))
  f170 := Try.func166.trans (congrArg some (by kernel_rfl))
  f206 := Try.func181.trans (congrArg some (by kernel_rfl))
  f212 := Try.func162.trans (congrArg some (by kernel_rfl))
  f240 := Try.func182.trans (congrArg some (by kernel_rfl))
  f241 := Try.func183.trans (congrArg some (by kernel_rfl))
  f263 := Try.func179.trans (congrArg some (by kernel_rfl))
  f264 := Try.func180.trans (congrArg some (by kernel_rfl))
  f276 := Try.func195.trans (congrArg some (by kernel_rfl))
  f277 := Try.func196.trans (congrArg some (by kernel_rfl))
  t0 := Try.underlying0
  a0 := Try.isAgg0
  z0 := Try.sizeOf0
  v0 := Try.zeroValue0
  t3 := Try.underlying3
  a3 := Try.isAgg3
  z3 := Try.sizeOf3
  v3 := Try.zeroValue3
  t4 := Try.underlying4
  a4 := Try.isAgg4
  z4 := Try.sizeOf4
  v4 := Try.zeroValue4
  t5 := Try.underlying5
  a5 := Try.isAgg5
  z5 := Try.sizeOf5
  v5 := Try.zeroValue5
  t9 := Try.underlying9
  a9 := Try.isAgg9
  z9 := Try.sizeOf9
  v9 := Try.zeroValue9
  t20 := Try.underlying20
  a20 := Try.isAgg20
  z20 := Try.sizeOf20
  v20 := Try.zeroValue20
  t37 := Try.underlying22
  a37 := Try.isAgg22
  z37 := Try.sizeOf22
  v37 := Try.zeroValue22
  t46 := Try.underlying133
  a46 := Try.isAgg133
  z46 := Try.sizeOf133
  v46 := Try.zeroValue133
  t51 := Try.underlying154
  a51 := Try.isAgg154
  z51 := Try.sizeOf154
  v51 := Try.zeroValue154
  t53 := Try.underlying79
  a53 := Try.isAgg79
  z53 := Try.sizeOf79
  v53 := Try.zeroValue79
  t70 := Try.underlying159
  a70 := Try.isAgg159
  z70 := Try.sizeOf159
  v70 := Try.zeroValue159
  t72 := Try.underlying161
  a72 := Try.isAgg161
  z72 := Try.sizeOf161
  v72 := Try.zeroValue161
  t75 := Try.underlying164
  a75 := Try.isAgg164
  z75 := Try.sizeOf164
  v75 := Try.zeroValue164
  t76 := Try.underlying165
  a76 := Try.isAgg165
  z76 := Try.sizeOf165
  v76 := Try.zeroValue165
  t109 := Try.underlying156
  a109 := Try.isAgg156
  z109 := Try.sizeOf156
  v109 := Try.zeroValue156
  t127 := Try.underlying181
  a127 := Try.isAgg181
  z127 := Try.sizeOf181
  v127 := Try.zeroValue181
  t146 := Try.underlying177
  a146 := Try.isAgg177
  z146 := Try.sizeOf177
  v146 := Try.zeroValue177
  t148 := Try.underlying179
  a148 := Try.isAgg179
  z148 := Try.sizeOf179
  v148 := Try.zeroValue179
  t164 := Try.underlying191
  a164 := Try.isAgg191
  z164 := Try.sizeOf191
  v164 := Try.zeroValue191 }
end Go.Proofs

namespace Go.Proofs
open Go.Shelf Go.RowKit Go.Lib Go.Sort Go.VS

set_option maxHeartbeats 1000000 in
theorem Try.so_clo (a b c d : Int) (ha : -2305843009213693952 ≤ a ∧ a ≤ 2305843009213693952) (hc : -2305843009213693952 ≤ c ∧ c ≤ 2305843009213693952) (W : World) : Calls Try.prog 148 #[.agg #[.int .i64 a, .int .i64 b], .agg #[.int .i64 c, .int .i64 d]] W fun e w' => e = .returned (.int .i64 (a - c)) ∧ ∃ q os', w' = grow (W.drewN q) os' := by
  have hw : IntKind.i64.wrap (a - c) = a - c := IntWalk.i64_in _ (by omega)
  go_enter Try.func148, Try.ntmps148
  go_wp2
  go_ret
  exact ⟨rfl, 0, _, by rw [alloc_eq_grow, alloc_eq_grow, grow_grow]; rfl⟩
theorem Try.so_cmp (ap off size : Nat) (w : World) : CmpLays Try.prog 148 #[] hI 2 (kK (sz := 2)) ap off size w := by
  intro m os dk _ x y
  obtain ⟨x, hx⟩ := x
  obtain ⟨y, hy⟩ := y
  match x, y, hx, hy with
  | [a, b], [c, d], hx, hy => exact Try.so_clo a b c d hx.2 hy.2 _
theorem Try.so_ok : qS Try.prog 147 148 2 where
  can := ⟨_, Try.func147, by kernel_rfl, by kernel_rfl⟩
  eq := fun ap off cap d w hH hb hs => AnyQ.slices_SortFunc_eq Try.sortSpan 2 Try.isAgg109 Try.sizeOf109 hI (fun x => by unfold hI; rw [List.length_map, x.2.1]) (fun x v hv => by unfold hI at hv; obtain ⟨n, _, rfl⟩ := List.mem_map.1 hv; rfl) kK (Cg 2) 148 #[] ap off cap d w (enters_of Try.func148 (by kernel_rfl) rfl) (Try.so_cmp ap off d.size w) hH hb hs
  none := fun p cap fv w => AnyF.slices_SortFunc_none Try.sortSpan p cap fv w
end Go.Proofs

namespace Go.Proofs
open Go.Shelf Go.RowKit Go.Lib Go.VS

theorem Try.rep_extra : Builder.Extra Try.prog Try.rep_ren where
  sizeBuilder := by kernel_rfl
  liesBuilder := by kernel_rfl
  t5 := Try.underlying5
  a5 := Try.isAgg5
  z5 := Try.sizeOf5
  v5 := Try.zeroValue5
  infoByte := by kernel_rfl
  cellsByte := by kernel_rfl
  sizeByte := by kernel_rfl
  neB5 := by decide
theorem Try.rep_ok : xQ Try.prog 131 where
  can := ⟨_, Try.func131, by kernel_rfl, by kernel_rfl⟩
  eq := fun s c w hc hl => Any.strings_Repeat Try.rep Try.rep_extra s c w hc hl
end Go.Proofs

