/-
  The reference's Sort over []float64: it sorts by keys, stably.
-/
import Derived.Test.YtngjfeielpnnnaaFloatSort
import Derived.Test.YtngjfeielpnnnaaMem2
namespace Go.Proofs.Ytngjfeielpnnnaa
open Go.RowKit
open FloatPlain
open Stable
set_option linter.unusedVariables false
set_option linter.unusedSimpArgs false
attribute [local go_sem] run_frombits run_bits u64_signed run_store_float

theorem slice64 : Try.prog.underlying 31 = some (.slice 24) := by kernel_rfl
theorem ssort_snoc (l : List Nat) (x : Nat) : ssort ltK (l ++ [x]) = insR ltK (ssort ltK l) x := by unfold ssort; rw [List.foldl_append]; rfl
theorem insV_mem {α : Type} (lt : α → α → Bool) (x y : α) (r : List α) (h : y ∈ insV lt x r) : y = x ∨ y ∈ r := by
  induction r with
  | nil => left; simpa [insV] using h
  | cons s r ih =>
    unfold insV at h
    split at h
    · rcases List.mem_cons.1 h with rfl | h
      · right; simp
      · rcases ih h with h | h
        · exact .inl h
        · exact .inr (by simp [h])
    · rcases List.mem_cons.1 h with rfl | h
      · exact .inl rfl
      · exact .inr h
theorem insR_mem {α : Type} (lt : α → α → Bool) (S : List α) (x y : α) (h : y ∈ insR lt S x) : y = x ∨ y ∈ S := by
  unfold insR at h
  rw [List.mem_reverse] at h
  rcases insV_mem lt x y _ h with h | h
  · exact .inl h
  · exact .inr (List.mem_reverse.1 h)
theorem foldl_mem {α : Type} (lt : α → α → Bool) (l : List α) : ∀ (S : List α) (y : α), y ∈ l.foldl (insR lt) S → y ∈ S ∨ y ∈ l := by
  induction l with
  | nil => intro S y h; exact .inl h
  | cons x l ih =>
    intro S y h
    rcases ih _ _ h with h | h
    · rcases insR_mem lt S x y h with rfl | h
      · right; simp
      · exact .inl h
    · right; simp [h]
theorem ssort_mem {α : Type} (lt : α → α → Bool) (l : List α) (y : α) (h : y ∈ ssort lt l) : y ∈ l := by
  rcases foldl_mem lt l [] y h with h | h
  · cases h
  · exact h
theorem insInner_end (S : List Nat) (x : Nat) : insInner ltK 0 S.length (S ++ [x]) = insR ltK S x := by
  have := insInner_spec ltK [] x S.length S [] S.length rfl (by simp)
  simpa using this

set_option maxHeartbeats 2000000 in
set_option maxRecDepth 100000 in
theorem rsort_c (A : Option Addr) (n c B : Nat) (xs : List Nat) (w : World) (h1 : RdF w B A n xs) (hB : B ≤ w.heap.size) (hok : ∀ x ∈ xs, W64 x) (hn : n < 1152921504606) :
    Calls Try.prog 22 #[.slice A n c] w fun e w' => ∃ A' c', e = .returned (.slice A' n c') ∧ RdF w' w'.heap.size A' n (ssort ltK (xs.map rawB)) ∧ Below w.heap.size w w' := by
  have HX := Lib.hid h1.len
  have H1 := Lib.hid (Reads.more h1 hB)
  have HOK := Lib.hid hok
  clear h1 hok hB
  go_enter Try.func22, Try.ntmps22
  go_wp2_with fail
  go_loopw [3, 4, 5, 6] (fun v vi _ _ wr => ∃ (k : Nat) (A2 : Option Addr) (c2 : Nat), vi = .int .i64 k ∧ k ≤ n ∧ v = .slice A2 k c2 ∧ Hid (OwnF wr w.heap.size (.slice A2 k c2) (ssort ltK ((xs.take k).map rawB)) ∧ (ssort ltK ((xs.take k).map rawB)).length = k) ∧ Hid (Below w.heap.size w wr)) (fun _ vi _ _ _ => n - (intOf vi).toNat)
  case atStart => exact ⟨0, none, 0, rfl, by omega, rfl, ⟨World.ownsRow_nil _ _ _ _, rfl⟩, Below.refl _ _⟩
  case round =>
    obtain ⟨k, A2, c2, rfl, hkn, rfl, HO, HB⟩ := hrel
    by_cases hlt : k < n
    · obtain ⟨ad, rfl, hc0⟩ := RdF.get (Reads.below H1.out HB.out) hlt
      have hcl := rclean_c (xs.getD k default)
      have HX1 : Hid (ssort ltK ((xs.take (k + 1)).map rawB) = insR ltK (ssort ltK ((xs.take k).map rawB)) (rawB (xs.getD k default))) := by
        show _ = _
        have hx := HX.out
        rw [List.take_succ_eq_append_getElem (by omega), List.map_append, List.map_cons, List.map_nil, ssort_snoc]
        simp [List.getD, show k < xs.length by omega]
      have HOKx : Hid (W64 (rawB (xs.getD k default))) := rawB_lt (HOK.out _ (by have := HX.out; simp [List.getD, show k < xs.length by omega]))
      have HOKl : Hid (∀ y ∈ ssort ltK ((xs.take k).map rawB), W64 y) := by
        intro y hy
        have : y ∈ (xs.take k).map rawB := ssort_mem ltK _ _ hy
        obtain ⟨z, hz, rfl⟩ := List.mem_map.1 this
        exact rawB_lt (HOK.out z (List.mem_of_mem_take hz))
      generalize ssort ltK ((xs.take k).map rawB) = l at HO HX1 HOKl
      generalize rawB (xs.getD k default) = x at hcl HX1 HOKx
      generalize xs.getD k default = x0 at hc0 hcl
      have hol : w.heap.size ≤ wr.heap.size := HB.out.size
      go_wp2_with (first | (go_at_call 41; refine (hcl _).mono ?_; rintro e w' ⟨rfl, rfl⟩) | (at_builtin; refine app_one slice64 info64 rfl (by decide) (.float .f64 _) rfl HO.out.1 (by have := HO.out.2; omega) HB.out.size rfl _ _ rfl rfl rfl ?_; intro v1 w1 ho1 hg1))
      have HB1 : Hid (Below w.heap.size w w1) := below_app HB.out HO.out.1 (Nat.le_refl _) HB.out.size hg1
      have HO1 : Hid (OwnF w1 w.heap.size v1 (l ++ [x]) ∧ l.length = k) := by
        refine ⟨?_, HO.out.2⟩
        show World.ownsRow _ _ _ _ _ _ _
        rw [List.length_append, List.map_append]; exact ho1
      obtain ⟨g, cap, hv, hgb, hgl⟩ := World.ownsRow.form HO1.out.1 (by simp)
      have hll : (l ++ [x]).length = k + 1 := by rw [List.length_append, HO1.out.2]; rfl
      rw [hll] at hv
      subst hv
      have HLl := Lib.hid hll
      clear ho1 hg1 hll hcl hc0 HO
      have HI0 : Hid (insInner ltK 0 k (l ++ [x]) = insR ltK l x) := by show _ = _; rw [← HO1.out.2]; exact insInner_end l x
      have HOK1 : Hid (∀ y ∈ l ++ [x], W64 y) := by
        intro y hy
        rcases List.mem_append.1 hy with hy | hy
        · exact HOKl.out y hy
        · obtain rfl : y = x := by simpa using hy
          exact HOKx.out
      have HO2 : Hid (OwnF w1 w.heap.size (.slice (some ⟨g, 0, none⟩) (k + 1) cap) (l ++ [x])) := HO1.out.1
      clear HO1 HB
      go_loopw [5, 6] (fun vj _ wr2 => ∃ (j : Nat) (m : List Nat), vj = .int .i64 j ∧ j ≤ k ∧ m.length = k + 1 ∧ Hid (OwnF wr2 w.heap.size (.slice (some ⟨g, 0, none⟩) (k + 1) cap) m) ∧ Hid (∀ y ∈ m, W64 y) ∧ Hid (insInner ltK 0 j m = insR ltK l x) ∧ Hid (Below w.heap.size w wr2)) (fun vj _ _ => (intOf vj).toNat)
      case atStart => exact ⟨k, l ++ [x], rfl, Nat.le_refl _, HLl.out, HO2, HOK1, HI0, HB1⟩
      case round =>
        clear HO2 HOK1 HI0 HB1
        obtain ⟨j, m, rfl, hjk, hm, HO2, HOK1, HI, HB1⟩ := hrel
        have HN : Hid ((j = 0 ∨ ltK (m.getD j default) (m.getD (j - 1) default) = false) → m = insR ltK l x) := by
          intro hs
          rw [← HI.out]
          cases j with
          | zero => rfl
          | succ j =>
            unfold insInner
            rw [if_neg]
            rintro ⟨h1, h2⟩
            rcases hs with h | h
            · omega
            · rw [Nat.add_sub_cancel] at h; rw [h] at h2; cases h2
        by_cases hja : 0 < j
        · obtain ⟨jp, hjp⟩ : ∃ q, q + 1 = j := ⟨j - 1, by omega⟩
          subst hjp
          have zj : ((jp + 1 : Nat) : Int) = (jp : Int) + 1 := by omega
          rw [zj]
          have hd : decide ((jp : Int) + 1 > 0) = true := decide_eq_true (by omega)
          have hd' : (0 : Int) < (jp : Int) + 1 := by omega
          have c1 := OwnF.cell hm HO2.out (j := jp + 1) (by omega)
          have c2 := OwnF.cell hm HO2.out (j := jp) (by omega)
          have hmem1 : W64 (m.getD (jp + 1) default) := HOK1.out _ (by simp [List.getD, show jp + 1 < m.length by omega])
          have hmem2 : W64 (m.getD jp default) := HOK1.out _ (by simp [List.getD, show jp < m.length by omega])
          have hcmp := fun n => rless_c (m.getD (jp + 1) default) (m.getD jp default) hmem1 hmem2 (wr.drewN n)
          have hl0 : decide (keyB (m.getD (jp + 1) default) < keyB (m.getD jp default)) = ltK (m.getD (jp + 1) default) (m.getD jp default) := rfl
          rw [hl0] at hcmp
          have HG : Hid (ltK (m.getD (jp + 1) default) (m.getD jp default) = true → insInner ltK 0 jp (swp m (jp + 1) jp) = insR ltK l x) := fun h => by
            rw [← HI.out]; rw [insInner]; rw [if_pos ⟨by omega, h⟩]
          have HST : Hid (∀ nq, OwnF (((wr.drewN nq).setCell ⟨g, jp + 1, none⟩ (.float .f64 (m.getD jp default))).setCell ⟨g, jp, none⟩ (.float .f64 (m.getD (jp + 1) default))) w.heap.size (.slice (some ⟨g, 0, none⟩) (k + 1) cap) (swp m (jp + 1) jp) ∧ Below w.heap.size w (((wr.drewN nq).setCell ⟨g, jp + 1, none⟩ (.float .f64 (m.getD jp default))).setCell ⟨g, jp, none⟩ (.float .f64 (m.getD (jp + 1) default)))) := by
            intro nq
            have ho : OwnF (wr.drewN nq) w.heap.size (.slice (some ⟨g, 0, none⟩) (k + 1) cap) m := HO2.out
            have hs1 := OwnF.set hm ho (jp + 1) (m.getD jp default)
            have hm1 : (m.set (jp + 1) (m.getD jp default)).length = k + 1 := by rw [List.length_set]; exact hm
            have hs2 := OwnF.set hm1 hs1.1 jp (m.getD (jp + 1) default)
            exact ⟨hs2.1, ((below_drewN HB1.out nq).setCell (p := ⟨g, jp + 1, none⟩) hgb _).setCell (p := ⟨g, jp, none⟩) hgb _⟩
          have HOKs : Hid (∀ y ∈ swp m (jp + 1) jp, W64 y) := by
            intro y hy
            rcases List.mem_or_eq_of_mem_set hy with hy | rfl
            · rcases List.mem_or_eq_of_mem_set hy with hy | rfl
              · exact HOK1.out y hy
              · exact hmem2
            · exact hmem1
          rw [Nat.add_sub_cancel] at HN
          have f1 : ∀ nq, (wr.drewN nq).frozen? ⟨g, jp + 1, none⟩ = false := fun _ => OwnF.free hm HO2.out (jp + 1)
          have f2 : ∀ nq, (wr.drewN nq).frozen? ⟨g, jp, none⟩ = false := fun _ => OwnF.free hm HO2.out jp
          have HOd : Hid (∀ nq, OwnF (wr.drewN nq) w.heap.size (.slice (some ⟨g, 0, none⟩) (k + 1) cap) m) := fun nq => HO2.out
          generalize m.getD (jp + 1) default = x1 at c1 hcmp HN HG HST
          generalize m.getD jp default = x2 at c2 hcmp HN HG HST
          clear hmem1 hmem2 hl0
          have e1 : ((jp : Int) + 1).toNat = jp + 1 := by omega
          have e2 : (0 : Int) ≤ (jp : Int) + 1 := by omega
          have e3 : (jp : Int) + 1 < ((k : Int) + 1) := by omega
          have e4 : IntKind.i64.wrap ((jp : Int) + 1) = (jp : Int) + 1 := by rw [IntKind.wrap_i64]; omega
          have e5 : IntKind.i64.wrap (jp : Int) = (jp : Int) := by rw [IntKind.wrap_i64]; omega
          have e6 : (jp : Int) < ((k : Int) + 1) := by omega
          clear zj
          cases hlv : ltK x1 x2 with
          | true =>
            rw [hlv] at hcmp
            have HL := Lib.hid hlv
            clear hlv
            go_wp2_with fail
            go_quiet (first | (go_at_call 44; exact quiet_left (hcmp _)))
            have HS3 := Lib.hid (HST.out nq)
            have c1' : (wr.drewN nq).cell? ⟨g, jp + 1, none⟩ = some (.float .f64 x1) := c1
            have c2' : (wr.drewN nq).cell? ⟨g, jp, none⟩ = some (.float .f64 x2) := c2
            have f1' := f1 nq
            have f2' := f2 nq
            clear c1 c2 f1 f2 hcmp HST HOd HO2 HB1
            generalize wr.drewN nq = w2 at *
            go_wp2
            clear c1' c2' f1' f2'
            go_roundw
            case rel => exact ⟨jp, swp m (jp + 1) jp, by go_num, by omega, by rw [swp_length]; exact hm, HS3.out.1, HOKs, HG.out HL.out, HS3.out.2⟩
            case measure => simp [intOf]
          | false =>
            rw [hlv] at hcmp
            have HL := Lib.hid hlv
            clear hlv
            go_wp2_with fail
            go_quiet (first | (go_at_call 44; exact quiet_left (hcmp _)))
            have HO3 := Lib.hid (HOd.out nq)
            have HB3 : Hid (Below w.heap.size w (wr.drewN nq)) := below_drewN HB1.out nq
            have HM := Lib.hid (HN.out (.inr HL.out))
            clear c1 c2 f1 f2 hcmp HST HOd HO2 HB1
            generalize wr.drewN nq = w2 at *
            go_wp2
            go_roundw
            case rel => exact ⟨k + 1, _, _, by go_num, by omega, rfl, ⟨by rw [HX1.out, ← HM.out]; exact HO3.out, by rw [HX1.out, ← HM.out]; exact hm⟩, HB3⟩
            case measure => simp [intOf]; omega
        · have hd : decide ((j : Int) > 0) = false := decide_eq_false (by omega)
          have hd' : ¬ (0 : Int) < (j : Int) := by omega
          have HM := Lib.hid (HN.out (.inl (by omega)))
          have HOd : Hid (∀ nq, OwnF (wr.drewN nq) w.heap.size (.slice (some ⟨g, 0, none⟩) (k + 1) cap) m) := fun nq => HO2.out
          go_wp2_with fail
          go_quiet (fail)
          have HO3 := Lib.hid (HOd.out nq)
          have HB3 : Hid (Below w.heap.size w (wr.drewN nq)) := below_drewN HB1.out nq
          clear HOd HO2 HB1
          generalize wr.drewN nq = w2 at *
          go_wp2
          go_roundw
          case rel => exact ⟨k + 1, _, _, by go_num, by omega, rfl, ⟨by rw [HX1.out, ← HM.out]; exact HO3.out, by rw [HX1.out, ← HM.out]; exact hm⟩, HB3⟩
          case measure => simp [intOf]; omega
    · have hk : k = n := by omega
      subst hk
      have hfull : xs.take k = xs := List.take_of_length_le (by rw [HX.out]; exact Nat.le_refl _)
      rw [hfull] at HO
      clear hfull
      go_wp2
      go_ret
      refine ⟨_, _, rfl, ?_, HB.out⟩
      have ho : wr.ownsRow w.heap.size 24 1 (.slice A2 k c2) (ssort ltK (xs.map rawB)).length ((ssort ltK (xs.map rawB)).map f64v) := HO.out.1
      rw [HO.out.2] at ho
      exact Reads.of_own ho
end Go.Proofs.Ytngjfeielpnnnaa
