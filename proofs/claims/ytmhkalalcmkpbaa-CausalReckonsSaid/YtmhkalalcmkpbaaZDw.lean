/-
  Dw
-/
import Derived.Test.YtmhkalalcmkpbaaZDel
import Derived.Test.YtmhkalalcmkpbaaZDotIn
import Derived.Test.YtmhkalalcmkpbaaZDotMay2
import Derived.Test.YtmhkalalcmkpbaaZDotPut
import Derived.Test.YtmhkalalcmkpbaaZDotRSort
import Derived.Test.YtmhkalalcmkpbaaZDotRead2
import Derived.Test.YtmhkalalcmkpbaaZDotSame
import Derived.Test.YtmhkalalcmkpbaaZFr
namespace Go.Proofs.Ytmhkalalcmkpbaa
open Go Go.RowKit
set_option linter.unusedVariables false
set_option linter.unusedSimpArgs false

def encA (d : Int × Int) : List AV := [iA d.1, iA d.2]
abbrev slD (l : List (Int × Int)) : AV := .sl 2 l.length (l.flatMap encA)
theorem encA_flat (l : List (Int × Int)) : l.flatMap encA = (l.flatMap encD).map AV.x := by
  induction l with
  | nil => rfl
  | cons d l ih => rw [List.flatMap_cons, List.flatMap_cons, List.map_append, ih]; rfl
theorem slD_len (l : List (Int × Int)) : (l.flatMap encA).length = l.length * 2 := by rw [encA_flat, List.length_map, flat_length]
theorem slD_open {O : Nat → Prop} {w : World} {l : List (Int × Int)} {v : Value} (h : Rep O w (slD l) v) : ∃ A c, v = .slice A l.length c ∧ RdD w w.heap.size A l.length l := by
  simp only [Rep] at h
  obtain ⟨h0, A, c, rfl, h1, h2, h3⟩ := h
  refine ⟨A, c, rfl, flat_length l, fun hl => ?_⟩
  rcases h3 with h3 | ⟨ad, rfl, h4, h5, h6⟩
  · omega
  · refine ⟨ad, rfl, h4, fun j u hj => ?_⟩
    obtain ⟨u', hu, hr⟩ := h6.at_ j (.x u) (by rw [encA_flat, List.getElem?_map, hj]; rfl)
    rw [rep_x] at hr
    rw [hu, hr]
theorem slD_close {O : Nat → Prop} {w : World} {base : Nat} {v : Value} {l : List (Int × Int)} (hO : ∀ b, O b → b < base) (h : OwnD w base v l) : Rep O w (slD l) v := by
  simp only [Rep]
  refine ⟨slD_len l, ?_⟩
  rcases h.2 with ⟨rfl, h0⟩ | ⟨g, cap, cur, rfl, hb, hh, hn, hc, hsz, htk⟩
  · exact ⟨none, 0, by rw [h0], by omega, by omega, .inl (by rw [h0])⟩
  · simp only [maxLen] at hc
    refine ⟨_, cap, rfl, hn, hc, .inr ⟨_, rfl, (Array.getElem?_eq_some_iff.1 hh).1, fun hx => ?_, ?_⟩⟩
    · have := hO _ hx
      simp only at this
      omega
    · refine RepC.mk fun j cc hj => ?_
      rw [encA_flat, List.getElem?_map] at hj
      obtain ⟨u, hu, rfl⟩ := Option.map_eq_some_iff.1 hj
      obtain ⟨ad, h1, h2, h3⟩ := (Reads.of_own h).2 (by
        rcases Nat.eq_zero_or_pos l.length with g0 | g0
        · have : l = [] := List.eq_nil_of_length_eq_zero g0
          subst this; simp at hu
        · exact g0)
      cases h1
      exact ⟨u, h3 j u hu, rep_x.2 rfl⟩
theorem args1 {args : Array Value} {v : Value} (hl : args.size = 1) (h : args[0]? = some v) : args = #[v] := by
  refine Array.ext (by simpa using hl) fun i h1 h2 => ?_
  obtain rfl : i = 0 := by omega
  have := (Array.getElem?_eq_some_iff.1 h).2
  simpa using this
theorem args2 {args : Array Value} {v u : Value} (hl : args.size = 2) (h : args[0]? = some v) (h' : args[1]? = some u) : args = #[v, u] := by
  refine Array.ext (by simpa using hl) fun i h1 h2 => ?_
  have e0 := (Array.getElem?_eq_some_iff.1 h).2
  have e1 := (Array.getElem?_eq_some_iff.1 h').2
  rcases i with _ | _ | i
  · simpa using e0
  · simpa using e1
  · omega
variable {P : Program} {g : FuncId}
theorem pfn_d1 {l : List (Int × Int)} {av : AV} (he : ∀ (args : Array Value) (w : World), (callFunc g args).run P w = .ok (.enter g args) w) (h2 : av.ex = true)
    (hc : ∀ A c w, RdD w w.heap.size A l.length l → Calls P g #[.slice A l.length c] w fun e w' => e = .returned av.val ∧ Below w.heap.size w w') : PFn P False g [slD l] av :=
  ⟨he, fun O w args hO hl hr => by
    simp only [RepC] at hr
    obtain ⟨⟨v, hv, hr⟩, _⟩ := hr
    obtain ⟨A, c, rfl, hrd⟩ := slD_open hr
    rw [args1 hl hv]
    exact (hc A c w hrd).mono fun e w' ⟨h3, h4⟩ => ⟨_, h3, (AV.rep_val av h2 _).2 rfl, bl_weak h4⟩⟩
theorem pfn_d2 {l : List (Int × Int)} {b av : AV} (he : ∀ (args : Array Value) (w : World), (callFunc g args).run P w = .ok (.enter g args) w) (h1 : b.ex = true) (h2 : av.ex = true)
    (hc : ∀ A c w, RdD w w.heap.size A l.length l → Calls P g #[.slice A l.length c, b.val] w fun e w' => e = .returned av.val ∧ Below w.heap.size w w') : PFn P False g [slD l, b] av :=
  ⟨he, fun O w args hO hl hr => by
    simp only [RepC] at hr
    obtain ⟨⟨v, hv, hr⟩, ⟨u, hu, hr2⟩, _⟩ := hr
    obtain ⟨A, c, rfl, hrd⟩ := slD_open hr
    obtain rfl := (AV.rep_val b h1 _).1 hr2
    rw [args2 hl hv hu]
    exact (hc A c w hrd).mono fun e w' ⟨h3, h4⟩ => ⟨_, h3, (AV.rep_val av h2 _).2 rfl, bl_weak h4⟩⟩
theorem pfn_dd {l m : List (Int × Int)} {av : AV} (he : ∀ (args : Array Value) (w : World), (callFunc g args).run P w = .ok (.enter g args) w) (h2 : av.ex = true)
    (hc : ∀ A c A' c' w, RdD w w.heap.size A l.length l → RdD w w.heap.size A' m.length m → Calls P g #[.slice A l.length c, .slice A' m.length c'] w fun e w' => e = .returned av.val ∧ Below w.heap.size w w') : PFn P False g [slD l, slD m] av :=
  ⟨he, fun O w args hO hl hr => by
    simp only [RepC] at hr
    obtain ⟨⟨v, hv, hr⟩, ⟨u, hu, hr2⟩, _⟩ := hr
    obtain ⟨A, c, rfl, hrd⟩ := slD_open hr
    obtain ⟨A', c', rfl, hrd'⟩ := slD_open hr2
    rw [args2 hl hv hu]
    exact (hc A c A' c' w hrd hrd').mono fun e w' ⟨h3, h4⟩ => ⟨_, h3, (AV.rep_val av h2 _).2 rfl, bl_weak h4⟩⟩
theorem pfn_sd {s : ByteArray} {l : List (Int × Int)} {r : Int} (he : ∀ (args : Array Value) (w : World), (callFunc g args).run P w = .ok (.enter g args) w)
    (hc : ∀ w, Calls P g #[.string s] w fun e w' => RetO w.heap.size w' e l r ∧ Below w.heap.size w w') : PFn P False g [sA s] (.tup [slD l, iA r]) :=
  ⟨he, fun O w args hO hl hr => by
    simp only [RepC] at hr
    obtain ⟨⟨v, hv, hr⟩, _⟩ := hr
    rw [rep_x] at hr
    subst hr
    rw [args1 hl hv]
    refine (hc w).mono ?_
    rintro e w' ⟨⟨v, rfl, ho⟩, h4⟩
    refine ⟨_, rfl, ?_, bl_weak h4⟩
    simp only [Rep]
    refine ⟨_, rfl, rfl, ?_⟩
    simp only [RepC]
    exact ⟨⟨_, rfl, slD_close hO ho⟩, ⟨_, rfl, rep_x.2 rfl⟩, trivial⟩⟩
theorem pfn_dsl {l m : List (Int × Int)} (he : ∀ (args : Array Value) (w : World), (callFunc g args).run P w = .ok (.enter g args) w)
    (hc : ∀ A c w, RdD w w.heap.size A l.length l → Calls P g #[.slice A l.length c] w fun e w' => ∃ v, e = .returned v ∧ OwnD w' w.heap.size v m ∧ Below w.heap.size w w') : PFn P False g [slD l] (slD m) :=
  ⟨he, fun O w args hO hl hr => by
    simp only [RepC] at hr
    obtain ⟨⟨v, hv, hr⟩, _⟩ := hr
    obtain ⟨A, c, rfl, hrd⟩ := slD_open hr
    rw [args1 hl hv]
    refine (hc A c w hrd).mono ?_
    rintro e w' ⟨v, rfl, ho, h4⟩
    exact ⟨_, rfl, slD_close hO ho, bl_weak h4⟩⟩

theorem dcheck_p (d : Int × Int) : PFn Try.prog False 70 [dA d] (iA (chk d)) := pfn_ex rfl rfl (enter_of Try.func70 (by kernel_rfl) rfl) fun w => (check_c d w).mono fun e w' ⟨h1, h2⟩ => ⟨h1, bl_weak h2⟩
theorem rdcheck_p (d : Int × Int) : PFn Try.prog False 74 [dA d] (iA (chk d)) := pfn_ex rfl rfl (enter_of Try.func74 (by kernel_rfl) rfl) fun w => (rcheck_c d w).mono fun e w' ⟨h1, h2⟩ => ⟨h1, bl_weak h2⟩
theorem dput_p (l : List (Int × Int)) (hn : l.length < 1000000) : PFn Try.prog False 64 [slD l] (.tup [sA (putS l), iA (putE l)]) :=
  pfn_d1 (enter_of Try.func64 (by kernel_rfl) rfl) rfl fun A c w h => put_c A _ c _ l w h (Nat.le_refl _) hn
theorem rdin_p (l : List (Int × Int)) (d : Int × Int) (hn : l.length < 1000000) : PFn Try.prog False 78 [slD l, dA d] (bA (decide (d ∈ l))) :=
  pfn_d2 (enter_of Try.func78 (by kernel_rfl) rfl) rfl rfl fun A c w h => in_c A _ c _ l d w h (Nat.le_refl _) hn
theorem rdsame_p (l m : List (Int × Int)) (hn : l.length < 1000000) (hm : m.length < 1000000) : PFn Try.prog False 57 [slD l, slD m] (bA (decide (l = m))) :=
  pfn_dd (enter_of Try.func57 (by kernel_rfl) rfl) rfl fun A c A' c' w h h' => (rsame_c A A' _ _ c c' _ _ l m w h h' hn hm).mono fun e w' ⟨h1, q, h2⟩ => ⟨h1, h2 ▸ below_drewN (Below.refl _ _) q⟩
theorem rdsort_p (l : List (Int × Int)) (hn : l.length < 1000000) : PFn Try.prog False 118 [slD l] (slD (sortK ltD l)) :=
  pfn_dsl (enter_of Try.func118 (by kernel_rfl) rfl) fun A c w h => rsort_c A _ c _ l w h (Nat.le_refl _) hn
theorem dread_p (s : ByteArray) (hs : s.size < 1000000000) : PFn Try.prog False 84 [sA s] (.tup [slD (readD s).1, iA (readD s).2]) :=
  pfn_sd (enter_of Try.func84 (by kernel_rfl) rfl) fun w => readO_c s hs w
end Go.Proofs.Ytmhkalalcmkpbaa
