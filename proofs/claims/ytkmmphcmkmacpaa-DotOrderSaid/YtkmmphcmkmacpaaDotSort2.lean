/-
  dot.Sort.
-/
import Derived.Test.YtkmmphcmkmacpaaDotComp
import Derived.Test.YtkmmphcmkmacpaaDotApp
import Derived.Test.YtkmmphcmkmacpaaDotRSort
import Derived.Shelf.SlSortCmp.NoneTotal
namespace Go.Proofs.Ytkmmphcmkmacpaa
open Go.Shelf Go.RowKit
open Go.Sort (HoldsK size_flatK get_flatK size_putRowK putRowK PermIn SortedIn)
set_option linter.unusedVariables false
set_option linter.unusedSimpArgs false

/-- A slice of names came back. -/
def SlD (w' : World) (e : Ending) (l : List (Int × Int)) : Prop := ∃ A m c, e = .returned (.slice A m c) ∧ m ≤ c ∧ RdD w' w'.heap.size A m l
theorem sortl_c (g cap n : Nat) (l : List (Int × Int)) (w : World) (hl : l.length = n) (hr : RowD w g l) (hn : n < 1000000) :
    Calls Try.prog 113 #[.slice (some ⟨g, 0, none⟩) n cap, .func (.func 111) #[] #[]] w fun e w' =>
      e = .returned (.tuple #[]) ∧ ∃ s, s.Perm l ∧ s.Pairwise (fun a b => ltD b a = false) ∧ s.length = n ∧ RowD w' g s ∧ w.grownBy w' (some g) := by
  have hd : l.toArray.size = n := by simpa using hl
  have h := sortd_c g 0 cap l.toArray w (RowD.holds (d := l.toArray) hr) hr.lt (by rw [hd]; omega)
  rw [hd] at h
  refine h.mono fun e w' ⟨he, d', q, os, hp, hs, hw⟩ => ⟨he, d'.toList, ?_, ?_, ?_, ?_, ?_⟩
  · have h3 := hp.2.2
    have hds : d'.size = n := hp.1.trans hd
    rw [← hds] at h3
    have e1 : d'.extract 0 d'.size = d' := by simp
    have e2 : l.toArray.extract 0 d'.size = l.toArray := by rw [hds, ← hd]; simp
    rw [e1, e2] at h3
    simpa using h3
  · have hds : d'.size = n := hp.1.trans hd
    rw [List.pairwise_iff_getElem]
    intro i j hi hj hij
    have h3 := hs i j (Nat.zero_le _) hij (by simp at hj; omega)
    rw [lt_of] at h3
    have hi' : i < d'.size := by simpa using hi
    have hj' : j < d'.size := by simpa using hj
    simpa [hi', hj'] using h3
  · have := hp.1; simp; omega
  · rw [hw]
    have hk : HoldsK encD 2 w g 0 l.toArray := RowD.holds (d := l.toArray) hr
    have h1 : HoldsK encD 2 (putRowK encD 2 (Sort.ahead w q) g 0 d') g 0 d' := Sort.holdsK_putRowK (enc := encD) (k := 2) _ g 0 l.toArray d' (Sort.holdsK_ahead (enc := encD) (k := 2) w q g 0 _ hk) hp.1
    have hlt : g < (putRowK encD 2 (Sort.ahead w q) g 0 d').heap.size := by rw [size_putRowK]; exact hr.lt
    have h2 := Sort.holdsK_grow (enc := encD) (k := 2) _ os g 0 d' hlt h1
    refine RowD.of_holds h2 ?_
    show g < (Sort.grow _ os).heap.size
    rw [Sort.size_grow]; omega
  · rw [hw]; exact grown_sort w g q d' os
theorem sortn_c (p : Option Addr) (cap : Nat) (w : World) : Calls Try.prog 113 #[.slice p 0 cap, .func (.func 111) #[] #[]] w fun e w' => e = .returned (.tuple #[]) ∧ w' = w :=
  AnyF.slices_SortFunc_none sortDot p cap _ w

set_option maxRecDepth 100000 in
theorem compact0_c (p : Option Addr) (cap : Nat) (w : World) : Calls Try.prog 114 #[.slice p 0 cap] w fun e w' => e = .returned (.slice p 0 cap) ∧ w' = w := by
  go_enter Try.func114, Try.ntmps114
  go_wp2
  go_ret
  exact ⟨rfl, rfl⟩

theorem OwnD.form2 {w : World} {base : Nat} {v : Value} {l : List (Int × Int)} (h : OwnD w base v l) (h0 : 0 < l.length) : ∃ g cap, v = .slice (some ⟨g, 0, none⟩) l.length cap ∧ l.length ≤ cap := by
  rcases h.2 with ⟨hv, hx⟩ | ⟨g, cap, cur, hv, _, _, hnc, _⟩
  · exfalso
    omega
  · exact ⟨g, cap, hv, hnc⟩

set_option maxHeartbeats 1000000 in
set_option maxRecDepth 100000 in
theorem sort_c (A : Option Addr) (n c B : Nat) (l : List (Int × Int)) (w : World) (h1 : RdD w B A n l) (hB : B ≤ w.heap.size) (hn : n < 1000000) :
    Calls Try.prog 51 #[.slice A n c] w fun e w' => SlD w' e (sortK ltD l) ∧ Below w.heap.size w w' := by
  obtain rfl : l.length = n := h1.len
  have hc := clone_c A l.length c B l w h1 hB hn
  clear h1 hB
  go_enter Try.func51, Try.ntmps51
  go_wp2_with fail
  refine hc.mono ?_
  rintro e w1 ⟨v, rfl, ho, hb⟩
  have HB := Lib.hid hb
  by_cases h0 : l.length = 0
  · have hl : l = [] := List.eq_nil_of_length_eq_zero h0
    subst hl
    obtain ⟨A1, c1, rfl, _, _⟩ := OwnD.form ho
    clear ho hb hc
    simp only [List.length_nil]
    go_wp2_with fail
    refine (sortn_c A1 c1 _).mono ?_
    rintro e w2 ⟨rfl, rfl⟩
    go_wp2_with fail
    refine (compact0_c A1 c1 _).mono ?_
    rintro e w2 ⟨rfl, rfl⟩
    go_wp2_with fail
    go_ret
    exact ⟨⟨_, _, _, rfl, Nat.zero_le _, Reads.none_⟩, HB.out⟩
  · obtain ⟨g, cap, rfl, hcap⟩ := OwnD.form2 ho (by omega)
    have hrow := OwnD.row ho
    have hg := ho.lt g rfl
    have hgb := hg.1
    have hs := sortl_c g cap l.length l w1 rfl hrow hn
    clear ho hb hc hg hrow
    go_wp2_with fail
    refine hs.mono ?_
    rintro e w2 ⟨rfl, s, hperm, hpw, hsl, hrow2, hgr2⟩
    have HS := Lib.hid (And.intro hperm hpw)
    have HB2 : Hid (Below w.heap.size w w2) := HB.out.trans (below_of_grown hgr2 HB.out.size hgb)
    have hc2 := compact_c g l.length cap s w2 hsl hrow2 hn hcap
    have HSL := Lib.hid hsl
    clear hs hperm hpw hsl hrow2 hgr2
    go_wp2_with fail
    refine hc2.mono ?_
    rintro e w3 ⟨rfl, hrow3, hgr3⟩
    have HR3 := Lib.hid hrow3
    have HB3 : Hid (Below w.heap.size w w3) := HB2.out.trans (below_of_grown hgr3 HB2.out.size hgb)
    have HC3 : Hid (compact s = sortK ltD l) := compact_sortK stoD l s HS.out.1 HS.out.2
    have HLE : Hid ((compact s).length ≤ cap) := by
      have := compact_le _ s rfl; have := HSL.out; show _ ≤ _; omega
    clear hc2 hrow3 hgr3
    go_wp2_with fail
    go_ret
    refine ⟨⟨_, _, _, rfl, HLE.out, ?_⟩, HB3.out⟩
    rw [← HC3.out]; exact HR3.out.reads
end Go.Proofs.Ytkmmphcmkmacpaa
