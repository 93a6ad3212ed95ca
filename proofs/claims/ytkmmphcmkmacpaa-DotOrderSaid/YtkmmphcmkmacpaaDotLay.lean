/-
  slices.SortFunc at names: the library's contract laid at this program.
-/
import Derived.Shelf.SlSortCmp.WholeK
import Derived.Test.YtkmmphcmkmacpaaDotClone
namespace Go.Proofs.Ytkmmphcmkmacpaa
open Go.Shelf Go.RowKit Go.Lib Go.Sort
set_option linter.unusedVariables false
def sortDot_ren : Go.Shelf.Ren := ⟨fun | 6 => 113 | 15 => 153 | 14 => 152 | 28 => 189 | 29 => 190 | 20 => 181 | 21 => 182 | 22 => 183 | 23 => 184 | 24 => 185 | 25 => 186 | 26 => 187 | 27 => 188 | 46 => 214 | 47 => 215 | 48 => 216 | 49 => 217 | 50 => 218 | 57 => 230 | n => n, fun | 22 => 27 | 24 => 23 | 25 => 161 | 3 => 3 | 39 => 173 | 0 => 0 | 53 => 241 | 55 => 243 | 4 => 4 | 46 => 234 | 45 => 233 | 50 => 238 | 5 => 5 | 9 => 9 | 66 => 265 | 70 => 269 | 76 => 279 | 77 => 280 | n => n, fun | n => n⟩
theorem sortDot : Go.Proofs.SlLaysF0.n6 Try.prog sortDot_ren := {
  mixed := by kernel_rfl
  f6 := ⟨Try.f113.name, by decide, Try.func113.trans (congrArg some (by kernel_rfl))⟩
  f14 := ⟨Try.f152.name, by decide, Try.func152.trans (congrArg some (by kernel_rfl))⟩
  f15 := Try.func153.trans (congrArg some (by kernel_rfl))
  f20 := ⟨Try.f181.name, by decide, Try.func181.trans (congrArg some (by kernel_rfl))⟩
  f21 := ⟨Try.f182.name, by decide, Try.func182.trans (congrArg some (by kernel_rfl))⟩
  f22 := ⟨Try.f183.name, by decide, Try.func183.trans (congrArg some (by kernel_rfl))⟩
  f23 := ⟨Try.f184.name, by decide, Try.func184.trans (congrArg some (by kernel_rfl))⟩
  f24 := ⟨Try.f185.name, by decide, Try.func185.trans (congrArg some (by kernel_rfl))⟩
  f25 := ⟨Try.f186.name, by decide, Try.func186.trans (congrArg some (by kernel_rfl))⟩
  f26 := ⟨Try.f187.name, by decide, Try.func187.trans (congrArg some (by kernel_rfl))⟩
  f27 := ⟨Try.f188.name, by decide, Try.func188.trans (congrArg some (by kernel_rfl))⟩
  f28 := Try.func189.trans (congrArg some (by kernel_rfl))
  f29 := Try.func190.trans (congrArg some (by kernel_rfl))
  f46 := ⟨Try.f214.name, by decide, Try.func214.trans (congrArg some (by kernel_rfl))⟩
  f47 := Try.func215.trans (congrArg some (by kernel_rfl))
  f48 := Try.func216.trans (congrArg some (by kernel_rfl))
  f49 := ⟨Try.f217.name, by decide, Try.func217.trans (congrArg some (by kernel_rfl))⟩
  f50 := ⟨Try.f218.name, by decide, Try.func218.trans (congrArg some (by kernel_rfl))⟩
  f57 := ⟨Try.f230.name, by decide, Try.func230.trans (congrArg some (by kernel_rfl))⟩
  t0 := Try.underlying0
  a0 := Try.isAgg0
  z0 := Try.sizeOf0
  v0 := Try.zeroValue0
  t3 := Try.underlying3
  a3 := Try.isAgg3
  z3 := Try.sizeOf3
  v3 := Try.zeroValue3
  t4 := Try.underlying4
  a4 := Try.isAgg4
  z4 := Try.sizeOf4
  v4 := Try.zeroValue4
  t5 := Try.underlying5
  a5 := Try.isAgg5
  z5 := Try.sizeOf5
  v5 := Try.zeroValue5
  t9 := Try.underlying9
  a9 := Try.isAgg9
  z9 := Try.sizeOf9
  v9 := Try.zeroValue9
  t22 := Try.underlying27
  a22 := Try.isAgg27
  z22 := Try.sizeOf27
  v22 := Try.zeroValue27
  t25 := Try.underlying161
  a25 := Try.isAgg161
  z25 := Try.sizeOf161
  v25 := Try.zeroValue161
  t39 := Try.underlying173
  a39 := Try.isAgg173
  z39 := Try.sizeOf173
  v39 := Try.zeroValue173
  t45 := Try.underlying233
  a45 := Try.isAgg233
  z45 := Try.sizeOf233
  v45 := Try.zeroValue233
  t46 := Try.underlying234
  a46 := Try.isAgg234
  z46 := Try.sizeOf234
  v46 := Try.zeroValue234
  t50 := Try.underlying238
  a50 := Try.isAgg238
  z50 := Try.sizeOf238
  v50 := Try.zeroValue238
  t53 := Try.underlying241
  a53 := Try.isAgg241
  z53 := Try.sizeOf241
  v53 := Try.zeroValue241
  t55 := Try.underlying243
  a55 := Try.isAgg243
  z55 := Try.sizeOf243
  v55 := Try.zeroValue243
  t66 := Try.underlying265
  a66 := Try.isAgg265
  z66 := Try.sizeOf265
  v66 := Try.zeroValue265
  t70 := Try.underlying269
  a70 := Try.isAgg269
  z70 := Try.sizeOf269
  v70 := Try.zeroValue269
  t76 := Try.underlying279
  a76 := Try.isAgg279
  z76 := Try.sizeOf279
  v76 := Try.zeroValue279
  t77 := Try.underlying280
  a77 := Try.isAgg280
  z77 := Try.sizeOf280
  v77 := Try.zeroValue280 }

theorem agg_dot (w : World) : (isAgg 23).run Try.prog w = .ok true w := by go_simp
theorem size_dot (w : World) : (Go.sizeOf 23).run Try.prog w = .ok 2 w := by go_simp
theorem enters_order (args : Array Value) (w : World) : (callFunc 111 args).run Try.prog w = .ok (.enter 111 args) w := enters_of Try.func111 (by kernel_rfl) rfl args w
theorem cmp_lays (blk off size : Nat) (w : World) : CmpLays Try.prog 111 #[] encD 2 ordD blk off size w := by
  intro m os dk _ x y
  refine (order_c x y _).mono ?_
  rintro e w' ⟨rfl, q, o1, o2, o3, rfl⟩
  exact ⟨rfl, q, #[o1, o2, o3], by rw [alloc_eq_grow, alloc_eq_grow, alloc_eq_grow, grow_grow, grow_grow]; rfl⟩
theorem lt_of (x y : Int × Int) : ltOf ordD x y = ltD x y := by unfold ltOf; exact ordD_lt x y
theorem swoD : SWO (ltOf ordD) where
  irrefl x := by rw [lt_of]; unfold ltD; rw [decide_eq_false_iff_not]; omega
  trans x y z h1 h2 := by rw [lt_of] at *; unfold ltD at *; rw [decide_eq_true_eq] at *; omega
  ntrans x y z h1 h2 := by rw [lt_of] at *; unfold ltD at *; rw [decide_eq_false_iff_not] at *; omega
theorem sortd_c (blk off cap : Nat) (d : Array (Int × Int)) (w : World) (hH : HoldsK encD 2 w blk off d) (hblk : blk < w.heap.size) (hsz : d.size < 4611686018427387904) :
    Calls Try.prog 113 #[.slice (some ⟨blk, off, none⟩) d.size cap, .func (.func 111) #[] #[]] w fun e w' =>
      e = .returned (.tuple #[]) ∧ ∃ d' n os, PermIn 0 d.size d d' ∧ SortedIn (ltOf ordD) 0 d.size d' ∧ w' = sortWorldK encD 2 w blk off n d' os :=
  AnyQ.slices_SortFunc sortDot 2 agg_dot size_dot encD (fun _ => rfl) (fun x v hv => by simp [encD] at hv; rcases hv with rfl | rfl <;> rfl) ordD swoD 111 #[] blk off cap d w enters_order (cmp_lays blk off d.size w) hH hblk hsz
end Go.Proofs.Ytkmmphcmkmacpaa
