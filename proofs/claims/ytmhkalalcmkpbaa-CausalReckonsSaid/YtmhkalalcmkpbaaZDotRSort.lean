/-
  DotRSort
-/
import Derived.Test.YtmhkalalcmkpbaaZDotApp
import Derived.Test.YtmhkalalcmkpbaaZDotMay
import Derived.Test.YtmhkalalcmkpbaaZOrd
namespace Go.Proofs.Ytmhkalalcmkpbaa
open Go.RowKit
set_option linter.unusedVariables false
set_option linter.unusedSimpArgs false

theorem stoD : STO ltD where
  irrefl a := by unfold ltD; rw [decide_eq_false_iff_not]; omega
  trans a b c h1 h2 := by unfold ltD at *; rw [decide_eq_true_eq] at *; omega
  total a b h1 h2 := by
    unfold ltD at *; rw [decide_eq_false_iff_not] at *
    exact Prod.ext (by omega) (by omega)
theorem OwnD.form {w : World} {base : Nat} {v : Value} {l : List (Int × Int)} (h : OwnD w base v l) : ∃ A c, v = .slice A l.length c ∧ l.length ≤ c ∧ RdD w w.heap.size A l.length l := by
  rcases h.2 with ⟨hv, hx⟩ | ⟨g, cap, cur, hv, _, _, hnc, _⟩
  · have hl : l = [] := by
      cases l with
      | nil => rfl
      | cons a l => simp [encD] at hx
    subst hl
    exact ⟨none, 0, hv, by simp, Reads.none_⟩
  · refine ⟨some ⟨g, 0, none⟩, cap, hv, hnc, ?_⟩
    subst hv
    exact Reads.of_own h
theorem flat_take (l : List (Int × Int)) (k : Nat) : (l.take k).flatMap encD = (l.flatMap encD).take (k * 2) := by
  induction l generalizing k with
  | nil => simp
  | cons d l ih =>
    cases k with
    | zero => simp
    | succ k => rw [List.take_succ_cons, List.flatMap_cons, List.flatMap_cons, ih, show (k + 1) * 2 = k * 2 + 1 + 1 by omega]; simp [encD]
theorem flat_drop (l : List (Int × Int)) (k : Nat) : (l.drop k).flatMap encD = (l.flatMap encD).drop (k * 2) := by
  induction l generalizing k with
  | nil => simp
  | cons d l ih =>
    cases k with
    | zero => simp
    | succ k => rw [List.drop_succ_cons, List.flatMap_cons, ih, show (k + 1) * 2 = k * 2 + 1 + 1 by omega]; simp [encD]
theorem RdD.take {w : World} {B : Nat} {A : Option Addr} {n : Nat} {l : List (Int × Int)} (h : RdD w B A n l) {k : Nat} (hk : k ≤ n) : RdD w B A k (l.take k) := by
  have hl := h.len
  refine ⟨by rw [flat_length, List.length_take, Nat.min_eq_left (by omega)], fun h0 => ?_⟩
  obtain ⟨ad, e, hb, hc⟩ := h.2 (by omega)
  refine ⟨ad, e, hb, fun j u hj => hc j u ?_⟩
  rw [flat_take] at hj
  rw [List.getElem?_take] at hj
  split at hj
  · exact hj
  · cases hj
theorem RdD.drop {w : World} {B : Nat} {A : Option Addr} {n cap : Nat} {l : List (Int × Int)} (h : RdD w B A n l) {k : Nat} (hk : k ≤ n) (hc : n ≤ cap) : RdD w B (if cap = k then A else A.map (·.add (k * 2))) (n - k) (l.drop k) := by
  have := Reads.cut h hk hc
  show Reads _ _ _ _ _ _
  rw [flat_drop]; exact this
theorem RdD.drop2 {w : World} {B b off : Nat} {n cap : Nat} {l : List (Int × Int)} (h : RdD w B (some ⟨b, off, none⟩) n l) {k : Nat} (hk : k ≤ n) (hc : n ≤ cap) (hlt : k < cap) : RdD w B (some ⟨b, off + k * 2, none⟩) (n - k) (l.drop k) := by
  have := RdD.drop h hk hc
  rw [if_neg (by omega), Option.map_some, add_flat] at this
  exact this
/-- The first k are less than x. -/
def LessTo (l : List (Int × Int)) (x : Int × Int) (k : Nat) : Prop := ∀ j, j < k → ltD (l.getD j default) x = true
theorem less_take : ∀ (l : List (Int × Int)) (x : Int × Int) (k : Nat), k ≤ l.length → LessTo l x k → (k < l.length → ltD (l.getD k default) x = false) →
    l.takeWhile (fun y => ltD y x) = l.take k ∧ l.dropWhile (fun y => ltD y x) = l.drop k := by
  intro l
  induction l with
  | nil => intro x k hk _ _; simp
  | cons a l ih =>
    intro x k hk h1 h2
    cases k with
    | zero =>
      have := h2 (by simp)
      simp only [List.getD_cons_zero] at this
      simp [List.takeWhile_cons, List.dropWhile_cons, this]
    | succ k =>
      have h0 := h1 0 (by omega)
      simp only [List.getD_cons_zero] at h0
      have := ih x k (by simpa using hk) (fun j hj => by simpa using h1 (j + 1) (by omega)) (fun h => by simpa using h2 (by simpa using h))
      rw [List.takeWhile_cons, List.dropWhile_cons, if_pos h0, if_pos h0, this.1, this.2]
      simp
theorem ins_at {l : List (Int × Int)} {x : Int × Int} {k : Nat} (hx : x ∉ l) (hk : k ≤ l.length) (h1 : LessTo l x k) (h2 : k < l.length → ltD (l.getD k default) x = false) : insK ltD l x = l.take k ++ [x] ++ l.drop k := by
  have := less_take l x k hk h1 h2
  unfold insK; rw [if_neg hx, this.1, this.2]; simp
theorem own_dot {w : World} {base n : Nat} {v : Value} {l : List (Int × Int)} {xs : List Value} (hn : l.length = n) (hx : l.flatMap encD = xs) (h : w.ownsRow base 23 2 v n xs) : OwnD w base v l := by
  subst hn hx; exact h

set_option maxHeartbeats 4000000 in
set_option maxRecDepth 100000 in
theorem rsort_c (A : Option Addr) (n c B : Nat) (l : List (Int × Int)) (w : World) (h1 : RdD w B A n l) (hB : B ≤ w.heap.size) (hn : n < 1000000) :
    Calls Try.prog 118 #[.slice A n c] w fun e w' => ∃ v, e = .returned v ∧ OwnD w' w.heap.size v (sortK ltD l) ∧ Below w.heap.size w w' := by
  have HX := Lib.hid h1.len
  have HR := Lib.hid (Reads.more h1 hB)
  clear h1 hB
  obtain ⟨ix, hi0, hz0, hsz0, hby0⟩ := info_parts infoDot
  have HI := Lib.hid (And.intro hi0 (And.intro hz0 (And.intro hsz0 hby0)))
  clear hi0 hz0 hsz0 hby0
  go_enter Try.func118, Try.ntmps118
  go_wp2_with fail
  go_loopw [3, 4, 5, 6] (fun vo vi _ _ wr => ∃ (i : Nat), vi = .int .i64 i ∧ i ≤ n ∧ Hid (Below w.heap.size w wr) ∧ Hid (OwnD wr w.heap.size vo (sortK ltD (l.take i)))) (fun _ vi _ _ _ => n - (intOf vi).toNat)
  case atStart => exact ⟨0, rfl, by omega, Below.refl _ _, World.ownsRow_nil _ _ _ _⟩
  case round =>
    obtain ⟨i, rfl, hin, HB, HO⟩ := hrel
    by_cases hlt : i < n
    · obtain ⟨b1, o1, rfl, hb1, hc1, hc2⟩ := RdD.get (Reads.below HR.out HB.out) hlt
      have HXC : Hid (∀ W, Below w.heap.size w W → W.cell? ⟨b1, o1 + i * 2, none⟩ = some (.int .i64 (l.getD i default).1) ∧ W.cell? ⟨b1, o1 + i * 2 + 1, none⟩ = some (.int .i64 (l.getD i default).2)) :=
        fun W hW => ⟨(hW.cell (p := ⟨b1, o1 + i * 2, none⟩) hb1).trans ((HB.out.cell (p := ⟨b1, o1 + i * 2, none⟩) hb1).symm.trans hc1), (hW.cell (p := ⟨b1, o1 + i * 2 + 1, none⟩) hb1).trans ((HB.out.cell (p := ⟨b1, o1 + i * 2 + 1, none⟩) hb1).symm.trans hc2)⟩
      obtain ⟨Ao, co, rfl, hco, hro⟩ := OwnD.form HO.out
      have HRO := Lib.hid hro
      have HCO := Lib.hid hco
      have HO2 := HO
      clear hro hco HO
      have hlen := sortK_length_le (lt := ltD) (l.take i)
      rw [List.length_take] at hlen
      have HT : Hid (sortK ltD (l.take (i + 1)) = insK ltD (sortK ltD (l.take i)) (l.getD i default)) := by
        show _ = _
        rw [take_nextD l i n HX.out hlt, sortK_snoc]
      generalize sortK ltD (l.take i) = acc at *
      have hm : acc.length < 1000000 := by omega
      clear hlen
      generalize hk : acc.length = m at *
      have HM := Lib.hid hk
      clear hk
      have hin1 := in_c Ao m co wr.heap.size acc (l.getD i default) wr HRO.out (Nat.le_refl _) hm
      generalize hxd : l.getD i default = x at *
      have HXD := Lib.hid hxd
      clear hxd
      obtain ⟨x1, x2⟩ := x
      simp only at hc1 hc2
      by_cases hmem : (x1, x2) ∈ acc
      · rw [decide_eq_true hmem] at hin1
        have HT2 : Hid (sortK ltD (l.take (i + 1)) = acc) := by show _ = _; rw [HT.out]; unfold insK; rw [if_pos hmem]
        clear hmem
        go_wp2_with (go_at_call 78; refine hin1.mono ?_; rintro e w1 ⟨rfl, hb1⟩)
        have HB1 : Hid (Below w.heap.size w w1) := HB.out.trans (hb1.mono HB.out.size)
        have HO1 : Hid (OwnD w1 w.heap.size (.slice Ao m co) (sortK ltD (l.take (i + 1)))) := by
          show OwnD _ _ _ _
          rw [HT2.out]
          exact own_dot rfl rfl (own_below HO2.out hb1)
        go_roundw
        case rel => exact ⟨i + 1, by go_num, by omega, HB1, HO1⟩
        case measure => simp [intOf]; omega
      · rw [decide_eq_false hmem] at hin1
        go_wp2_with (go_at_call 78; refine hin1.mono ?_; rintro e w1 ⟨rfl, hb1⟩)
        clear hc1 hc2
        obtain ⟨w9, hw9⟩ : ∃ w9, w9 = wr := ⟨_, rfl⟩
        subst hw9
        go_loopw [5] (fun vk wr => ∃ (k : Nat), vk = .int .i64 k ∧ k ≤ m ∧ Hid (Below w9.heap.size w9 wr) ∧ Hid (LessTo acc (x1, x2) k)) (fun vk _ => m - (intOf vk).toNat)
        case atStart => exact ⟨0, rfl, by omega, hb1, fun j hj => by omega⟩
        case round =>
          clear hb1
          obtain ⟨k, rfl, hk, HBW, HLT⟩ := hrel
          by_cases hlk : k < m
          · obtain ⟨b2, o2, hb2, _, hd1, hd2⟩ := RdD.get (Reads.below HRO.out HBW.out) hlk
            have hls := rless_c (acc.getD k default) (x1, x2)
            have f1 : wr.drew.cell? ⟨b2, o2 + k * 2, none⟩ = some (.int .i64 (acc.getD k default).1) := hd1
            have f2 : wr.drew.cell? ⟨b2, o2 + k * 2 + 1, none⟩ = some (.int .i64 (acc.getD k default).2) := hd2
            have f3 := (HXC.out wr.drew (below_drewN (HB.out.trans (HBW.out.mono HB.out.size)) 1)).1
            have f4 := (HXC.out wr.drew (below_drewN (HB.out.trans (HBW.out.mono HB.out.size)) 1)).2
            subst hb2
            have hiz : 0 ≤ (k : Int) ∧ (k : Int) < (m : Int) := by omega
            have hiy : 0 ≤ (i : Int) ∧ (i : Int) < (n : Int) := by omega
            have hdt : decide ((k : Int) < (m : Int)) = true := decide_eq_true hiz.2
            clear hd1 hd2 hin1
            have HLN : Hid (ltD (acc.getD k default) (x1, x2) = true → LessTo acc (x1, x2) (k + 1)) := fun h j hj => by
              rcases Nat.lt_or_ge j k with g | g
              · exact HLT.out j g
              · obtain rfl : j = k := by omega
                exact h
            have HINS0 : Hid (ltD (acc.getD k default) (x1, x2) = false → sortK ltD (l.take (i + 1)) = acc.take k ++ [(x1, x2)] ++ acc.drop k) := fun h => by
              rw [HT.out]; exact ins_at hmem (by rw [HM.out]; exact hk) HLT.out (fun _ => h)
            have HBD : Hid (Below w9.heap.size w9 wr.drew) := below_drewN HBW.out 1
            clear HBW HLT HT
            generalize ltD (acc.getD k default) (x1, x2) = b at *
            generalize acc.getD k default = y at *
            obtain ⟨y1, y2⟩ := y
            simp only at f1 f2 hls
            go_wp2_with fail
            refine wp_region_still_tail 13 (by kernel_rfl) (by kernel_rfl) ?_
            simp only [List.take_succ_cons, List.take_zero, List.drop_succ_cons, List.drop_zero]
            change wpStill _ _ (World.drew wr) _ _ _
            generalize hw2 : World.drew wr = w2 at *
            repeat still_step
            refine wpStill_nil ?_
            change wpList _ _ _ _ _ (World.drew wr)
            rw [hw2]
            clear hw2 f1 f2 f3 f4 hiz hiy hdt
            cases b with
            | true =>
              have HLN2 := Lib.hid (HLN.out (by first | rfl | trivial))
              clear HLN HINS0
              go_wp2_with (go_at_call 129; refine (hls _).mono ?_; rintro e w5 ⟨rfl, hb5⟩)
              have HB5 : Hid (Below w9.heap.size w9 w5) := HBD.out.trans (hb5.mono HBD.out.size)
              go_roundw
              case rel => exact ⟨k + 1, by go_num, by omega, HB5, HLN2⟩
              case measure => simp [intOf]; omega
            | false =>
              have HINS := Lib.hid (HINS0.out (by first | rfl | trivial))
              clear HLN HINS0
              go_wp2_with fail
              refine (hls _).mono ?_
              rintro e w5 ⟨rfl, hb5⟩
              have HBW : Hid (Below w9.heap.size w9 w5) := HBD.out.trans (hb5.mono HBD.out.size)
              clear HBD hb5 hls
              have HW2 : Hid (Below w.heap.size w w5) := HB.out.trans (HBW.out.mono HB.out.size)
              have hsz1 : w9.heap.size ≤ w5.heap.size := HBW.out.size
              have hro2 : Hid (RdD w5 w5.heap.size _ m acc) := Reads.more (Reads.below HRO.out HBW.out) hsz1
              clear HBW 
              have hcok : ¬ co = k := (by have := HCO.out; omega); have hkco : k ≤ co := Nat.le_trans hk HCO.out; have hkco2 : (k : Int) ≤ (co : Int) := (by omega); have hkm2 : (k : Int) ≤ (m : Int) := (by omega); have tok1 : True := trivial
              go_wp2_with (first
                | (at_builtin; have _t := tok1; refine app_dots (OwnD.nil w5 w5.heap.size) (RdD.take hro2.out hk) (by simp only [List.length_nil]; omega) (Nat.le_refl _) rfl _ _ rfl rfl rfl ?_; intro v1 w3 ho1 hb1; have HO3 := Lib.hid ho1; have HB3 := Lib.hid hb1; obtain ⟨hx1, hx2⟩ := HXC.out w3 (HW2.out.trans (hb1.mono HW2.out.size)); clear ho1 hb1 tok1 _t; have tok2 : True := trivial)
                | (at_builtin; have _t := tok2; refine app_dot1 x1 x2 HO3.out (by simp only [List.nil_append, List.length_take]; omega) HB3.out.size rfl _ _ rfl rfl rfl ?_; intro v2 w4 ho2 hb2; have HO4 := Lib.hid ho2; have HB4 := Lib.hid (HB3.out.trans hb2); clear hx1 hx2 ho2 hb2 tok2 _t; have tok3 : True := trivial)
                | (at_builtin; have _t := tok3; refine app_dots HO4.out (RdD.drop2 (Reads.below hro2.out HB4.out) hk HCO.out (by have := HCO.out; omega)) (by simp only [List.nil_append, List.length_append, List.length_take, List.length_singleton]; omega) HB4.out.size rfl _ _ rfl rfl rfl ?_; intro v3 w6 ho3 hb3; have HB5 := Lib.hid (HB4.out.trans hb3); clear hb3 tok3 _t))
              have HO5 : Hid (OwnD w6 w.heap.size v3 (sortK ltD (l.take (i + 1)))) := by
                show OwnD _ _ _ _
                rw [HINS.out]
                exact World.ownsRow.mono ho3 HW2.out.size
              clear ho3
              have HB6 : Hid (Below w.heap.size w w6) := HW2.out.trans (HB5.out.mono HW2.out.size)
              go_roundw
              case rel => exact ⟨i + 1, by go_num, by omega, HB6, HO5⟩
              case measure => simp [intOf]; omega
          · have hkm : k = m := by omega
            have HINS : Hid (sortK ltD (l.take (i + 1)) = acc.take k ++ [(x1, x2)] ++ acc.drop k) := by
              show _ = _
              rw [HT.out]; exact ins_at hmem (by rw [HM.out]; exact hk) HLT.out (fun h => by rw [HM.out] at h; omega)
            have hdt : decide ((k : Int) < (m : Int)) = false := decide_eq_false (by omega)
            have HBD : Hid (∀ q, Below w9.heap.size w9 (wr.drewN q)) := fun q => below_drewN HBW.out q
            clear HBW HLT HT hin1 hkm
            go_wp2_with fail
            refine wp_region_still_tail 14 (by kernel_rfl) (by kernel_rfl) ?_
            simp only [List.take_succ_cons, List.take_zero, List.drop_succ_cons, List.drop_zero]
            change wpStill _ _ (World.drew wr) _ _ _
            generalize hw2 : World.drew wr = w5 at *
            refine wpStill_hold (fun Q5 HQ5 => ?_)
            iterate 5 still_step
            iterate 9 ((with_reducible refine wpStill_step (fun K hK => ?_)); go_simp; (with_reducible refine hK _ ?_); clear hK K)
            refine wpStill_nil (HQ5.out _ ?_)
            clear HQ5
            change wpList _ _ _ _ _ (World.drew wr)
            have HBW : Hid (Below w9.heap.size w9 w5) := by
              show Below _ _ _
              rw [← hw2]; exact HBD.out 1
            rw [hw2]
            clear hw2 HBD hdt
            have HW2 : Hid (Below w.heap.size w w5) := HB.out.trans (HBW.out.mono HB.out.size)
            have hsz1 : w9.heap.size ≤ w5.heap.size := HBW.out.size
            have hro2 : Hid (RdD w5 w5.heap.size _ m acc) := Reads.more (Reads.below HRO.out HBW.out) hsz1
            clear HBW 
            have hkco : k ≤ co := Nat.le_trans hk HCO.out; have hkco2 : (k : Int) ≤ (co : Int) := (by omega); have hkm2 : (k : Int) ≤ (m : Int) := (by omega); have tok1 : True := trivial
            go_wp2_with (first
              | (at_builtin; have _t := tok1; refine app_dots (OwnD.nil w5 w5.heap.size) (RdD.take hro2.out hk) (by simp only [List.length_nil]; omega) (Nat.le_refl _) rfl _ _ rfl rfl rfl ?_; intro v1 w3 ho1 hb1; have HO3 := Lib.hid ho1; have HB3 := Lib.hid hb1; obtain ⟨hx1, hx2⟩ := HXC.out w3 (HW2.out.trans (hb1.mono HW2.out.size)); clear ho1 hb1 tok1 _t; have tok2 : True := trivial)
              | (at_builtin; have _t := tok2; refine app_dot1 x1 x2 HO3.out (by simp only [List.nil_append, List.length_take]; omega) HB3.out.size rfl _ _ rfl rfl rfl ?_; intro v2 w4 ho2 hb2; have HO4 := Lib.hid ho2; have HB4 := Lib.hid (HB3.out.trans hb2); clear hx1 hx2 ho2 hb2 tok2 _t; have tok3 : True := trivial)
              | (at_builtin; have _t := tok3; refine app_dots HO4.out (RdD.drop (Reads.below hro2.out HB4.out) hk HCO.out) (by simp only [List.nil_append, List.length_append, List.length_take, List.length_singleton]; omega) HB4.out.size rfl _ _ rfl rfl rfl ?_; intro v3 w6 ho3 hb3; have HB5 := Lib.hid (HB4.out.trans hb3); clear hb3 tok3 _t))
            have HO5 : Hid (OwnD w6 w.heap.size v3 (sortK ltD (l.take (i + 1)))) := by
              show OwnD _ _ _ _
              rw [HINS.out]
              exact World.ownsRow.mono ho3 HW2.out.size
            clear ho3
            have HB6 : Hid (Below w.heap.size w w6) := HW2.out.trans (HB5.out.mono HW2.out.size)
            go_roundw
            case rel => exact ⟨i + 1, by go_num, by omega, HB6, HO5⟩
            case measure => simp [intOf]; omega
    · have hin' : i = n := by omega
      have hE := HO.out
      rw [hin', List.take_of_length_le (by rw [HX.out]; exact Nat.le_refl _)] at hE
      have HE := Lib.hid hE
      clear hin' HO hE
      go_wp2
      go_ret
      exact ⟨_, rfl, HE.out, HB.out⟩
end Go.Proofs.Ytmhkalalcmkpbaa
