/-
  almonrylaw05.FloatSorts answers true: the walk.
-/
import Derived.Test.YtngjfeielpnnnaaFloatSort2
import Derived.Test.YtngjfeielpnnnaaFloatAwake
namespace Go.Proofs.Ytngjfeielpnnnaa
open Go.RowKit
open FloatPlain
open Stable
set_option linter.unusedVariables false
set_option linter.unusedSimpArgs false
attribute [local go_sem] run_frombits run_bits u64_signed run_store_float

def u64v (n : Nat) : Value := .int .u64 n
abbrev RdU (w : World) (B : Nat) (A : Option Addr) (n : Nat) (xs : List Nat) : Prop := Reads w B 1 A n (xs.map u64v)
theorem RdU.len {w : World} {B : Nat} {A : Option Addr} {n : Nat} {xs : List Nat} (h : RdU w B A n xs) : xs.length = n := by have := h.1; simpa using this
theorem RdU.get {w : World} {B : Nat} {A : Option Addr} {n k : Nat} {xs : List Nat} (h : RdU w B A n xs) (hk : k < n) : ∃ ad, A = some ad ∧ w.cell? (ad.add k) = some (.int .u64 (xs.getD k default : Nat)) := by
  obtain ⟨ad, u, e, _, hx, hc⟩ := Reads.at_ h hk
  refine ⟨ad, e, ?_⟩
  rw [hc, ← hx]
  have := h.len
  simp [List.getD, u64v, show k < xs.length by omega]
theorem take_next (xs : List Nat) (k n : Nat) (hn : xs.length = n) (hk : k < n) : xs.take (k + 1) = xs.take k ++ [xs.getD k default] := by
  rw [List.take_succ_eq_append_getElem (by omega)]; simp [List.getD, show k < xs.length by omega]

set_option maxHeartbeats 1000000 in
set_option maxRecDepth 100000 in
theorem sorts_walk (A : Option Addr) (n c : Nat) (xs : List Nat) (w : World) (h1 : RdU w w.heap.size A n xs) (hok : ∀ x ∈ xs, W64 x) :
    Calls Try.prog 4 #[.slice A n c] w fun e w' => e = .returned (.bool true) ∧ Below w.heap.size w w' := by
  have haw := awake05_c
  by_cases hn : 60 < n
  · have hni : (60 : Int) < (n : Int) := by omega
    go_enter Try.func4, Try.ntmps4
    go_wp2_with (go_at_call 19; refine (haw _).mono ?_; rintro e w9 ⟨rfl, hb9⟩)
    go_ret
    exact ⟨rfl, hb9⟩
  · have HX := Lib.hid h1.len
    have H1 := Lib.hid h1
    have HOK := Lib.hid hok
    clear h1 hok
    go_enter Try.func4, Try.ntmps4
    go_wp2_with fail
    go_loopw [3, 4] (fun v vi wr => ∃ (k : Nat) (A2 : Option Addr) (c2 : Nat), vi = .int .i64 k ∧ k ≤ n ∧ v = .slice A2 k c2 ∧ Hid (wr.ownsRow w.heap.size 24 1 (.slice A2 k c2) k ((xs.take k).map f64v)) ∧ Hid (Below w.heap.size w wr)) (fun _ vi _ => n - (intOf vi).toNat)
    case atStart => exact ⟨0, none, 0, rfl, by omega, rfl, World.ownsRow_nil _ _ _ _, Below.refl _ _⟩
    case round =>
      obtain ⟨k, A2, c2, rfl, hkn, rfl, HO, HB⟩ := hrel
      by_cases hlt : k < n
      · obtain ⟨ad, rfl, hc0⟩ := RdU.get (Reads.below H1.out HB.out) hlt
        have HT := Lib.hid (take_next xs k n HX.out hlt)
        generalize xs.getD k default = x at hc0 HT
        go_wp2_with (at_builtin; refine app_one slice64 info64 rfl (by decide) (.float .f64 _) rfl HO.out (by omega) HB.out.size rfl _ _ rfl rfl rfl ?_; intro v1 w1 ho1 hg1)
        have HB1 : Hid (Below w.heap.size w w1) := below_app HB.out HO.out (Nat.le_refl _) HB.out.size hg1
        obtain ⟨g, cap, hv, hgb, hgl⟩ := World.ownsRow.form ho1 (by omega)
        subst hv
        have HO1 : Hid (w1.ownsRow w.heap.size 24 1 (.slice (some ⟨g, 0, none⟩) (k + 1) cap) (k + 1) ((xs.take (k + 1)).map f64v)) := by
          show World.ownsRow _ _ _ _ _ _ _
          rw [HT.out, List.map_append]; simpa [f64v] using ho1
        clear ho1 hg1 hc0 HO HB
        go_roundw
        case rel => exact ⟨k + 1, _, _, by go_num, by omega, rfl, HO1, HB1⟩
        case measure => simp [intOf]; omega
      · have hk : k = n := by omega
        subst hk
        have hfull : xs.take k = xs := List.take_of_length_le (by rw [HX.out]; exact Nat.le_refl _)
        rw [hfull] at HO
        have hrd : RdF wr wr.heap.size A2 k xs := Reads.of_own HO.out
        have HRD := Lib.hid hrd
        have hs1 := fun c => sort_c A2 k c wr.heap.size xs wr hrd (Nat.le_refl _) HOK.out (by omega)
        clear hfull HO hrd
        go_wp2_with fail
        refine (hs1 _).mono ?_
        rintro e w2 ⟨A3, c3, rfl, hr3, hb3⟩
        have HR3 := Lib.hid hr3
        have HB3 := Lib.hid hb3
        clear hr3 hb3 hs1
        go_wp2_with fail
        refine (rsort_c A2 k _ wr.heap.size xs w2 (Reads.below HRD.out HB3.out) HB3.out.size HOK.out (by omega)).mono ?_
        rintro e w3 ⟨A4, c4, rfl, hr4, hb4⟩
        have HR4 := Lib.hid hr4
        have HB4 := Lib.hid hb4
        clear hr4 hb4
        go_wp2_with fail
        refine (all_c A3 A4 k k _ _ _ _ _ _ w3 (Reads.below HR3.out HB4.out) HR4.out (by omega) (by omega)).mono ?_
        rintro e w4 ⟨rfl, q, rfl⟩
        rw [decide_eq_true rfl]
        go_wp2_with fail
        refine (haw _).mono ?_
        rintro e w9 ⟨rfl, hb9⟩
        have HB9 := Lib.hid hb9
        clear hb9
        go_wp2
        go_ret
        have b3 : Below w.heap.size w w2 := HB.out.trans (HB3.out.mono HB.out.size)
        have b4 : Below w.heap.size w w3 := b3.trans (HB4.out.mono b3.size)
        have b5 : Below w.heap.size w (w3.drewN q) := below_drewN b4 q
        exact ⟨rfl, b5.trans (HB9.out.mono b5.size)⟩

end Go.Proofs.Ytngjfeielpnnnaa
