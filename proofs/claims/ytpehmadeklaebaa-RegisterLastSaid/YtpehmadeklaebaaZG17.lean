/-
  G17
-/
import Derived.Test.YtpehmadeklaebaaZE23
import Derived.Test.YtpehmadeklaebaaZGSort
namespace Go.Proofs.Ytpehmadeklaebaa.V
open Go Go.RowKit
set_option linter.unusedVariables false
set_option linter.unusedSimpArgs false

set_option maxHeartbeats 4000000 in
set_option maxRecDepth 100000 in
theorem sign_e {K : Prop} : FE.ok Try.prog K (fe2 78 (.v .bool) (.v .bool) (fun x y => True) (fun x y => [.td cInt (byL x y)])) := by
  refine efn2 EB5_ok Try.func78 rfl (by kernel_rfl) 9 rfl _ rfl (by kernel_rfl) fun E hY x y hp => ?_
  refine e_run hY 400 (by kernel_rfl) ?_
  repeat' (first | (refine And.intro ?_ ?_ <;> intro _) | (refine And.intro ?_ ?_; (exact trivial)) | (refine And.intro ?_ ?_; (exact Nat.le_of_ble_eq_true rfl)) | (refine And.intro ?_ ?_; (omega)))
  all_goals (refine And.intro ?_ trivial)
  all_goals (simp only [byL]; grind)

set_option maxHeartbeats 4000000 in
set_option maxRecDepth 100000 in
theorem later_e {K : Prop} : FE.ok Try.prog K (fe2 84 (.v cFact) (.v cFact) (fun x y => True) (fun x y => [.td .bool (latR x y)])) := by
  refine efn2 EB5_ok Try.func84 rfl (by kernel_rfl) 32 rfl _ rfl (by kernel_rfl) fun E hY x y hp => ?_
  refine e_run hY 400 (by kernel_rfl) ?_
  repeat' (first | (refine And.intro ?_ ?_ <;> intro _) | (refine And.intro ?_ ?_; (exact trivial)) | (refine And.intro ?_ ?_; (exact Nat.le_of_ble_eq_true rfl)) | (refine And.intro ?_ ?_; (omega)))
  all_goals (refine And.intro ?_ trivial)
  all_goals (simp only [latR, lessS, eqT] at *; have := gtrS x.2.2.2.2 y.2.2.2.2; simp only [lessS] at this; grind)

def ofP (k : Int) (n : ByteArray) (f : FactT) : Bool := (decide (k = f.2.2.1) || decide (k = 0)) && decide (f.2.2.2.1 = n)

set_option maxHeartbeats 4000000 in
set_option maxRecDepth 100000 in
theorem of_e {K : Prop} : FE.ok Try.prog K (fe3 25 (.v cFacts) (.v cInt) (.v .str) (fun x y z => x.length < 1000000) (fun x y z => [.td cFacts (x.filter (ofP y z))])) := by
  refine efn3 EB5_ok Try.func25 rfl (by kernel_rfl) 33 rfl _ rfl (by kernel_rfl) fun E hY x y z hp => ?_
  refine e_run hY 400 (by kernel_rfl) ?_
  refine e_nil 7 64 cFact 0 rfl rfl (by rw [← hY.n0]; exact Nat.le_refl _) ?_
  refine e_loop hY 0 rfl (α := Nat) (fun i => ([(12, .td cInt (i : Int)), (7, .row 0)], [.row 64 cFact ((x.take i).filter (ofP y z))])) (fun i => i ≤ x.length) (fun i => x.length - i) 0 (Nat.zero_le _) ?_ fun i hi => ?_
  · repeat (first | exact trivial | (refine And.intro ?_ ?_; (rfl)))
  · have hn := List.length_filter_le (ofP y z) (x.take i)
    rw [List.length_take] at hn
    generalize hL : (x.take i).filter (ofP y z) = L at hn ⊢
    refine e_run hY 400 (by kernel_rfl) ?_
    refine And.intro (fun h1 => ?_) (fun h1 => ?_)
    · have hlt : i < x.length := nat_t h1
      have yes : ofP y z (x.getD i cFact.dflt) = true → L ++ [x.getD i cFact.dflt] = (x.take (i + 1)).filter (ofP y z) := fun h => by rw [← hL]; exact filt_yes cFact.dflt hlt h
      have no : ofP y z (x.getD i cFact.dflt) = false → L = (x.take (i + 1)).filter (ofP y z) := fun h => by rw [← hL]; exact filt_no cFact.dflt hlt h
      repeat' (first | (refine And.intro (fun h => ?_) (fun h => ?_)) | (refine And.intro ?_ ?_; (first | (exact trivial) | (omega) | (simp only [Int.toNat_natCast, List.length_append, List.length_cons, List.length_nil]; omega))))
      all_goals (refine e_back (i + 1) hlt (by omega) ?_)
      all_goals (repeat (first | exact trivial | (refine And.intro ?_ ?_; (first | (rfl) | (refine yes ?_; simp only [ofP]; grind) | (refine no ?_; simp only [ofP]; grind)))))
    · have hge := nat_f h1
      refine And.intro ?_ trivial
      rw [List.take_of_length_le hge] at hL
      exact hL.symm

def F6 : List FE := [fe2 78 (.v .bool) (.v .bool) (fun x y => True) (fun x y => [.td cInt (byL x y)]), fe2 84 (.v cFact) (.v cFact) (fun x y => True) (fun x y => [.td .bool (latR x y)])] ++ F5
def EB6 : EB := ebOf TTa F6 QQ
theorem F6_ok {K : Prop} : AllFE Try.prog K F6 := AllFE.append ⟨sign_e, later_e, trivial⟩ F5_ok
theorem EB6_ok {K : Prop} : EBok EB6 Try.prog K := ebOf_ok mixP TTa_ok F6_ok QQ_ok

set_option maxHeartbeats 4000000 in
set_option maxRecDepth 100000 in
theorem rorder_e {K : Prop} : FE.ok Try.prog K (fe2 51 (.v cFact) (.v cFact) (fun x y => True) (fun x y => [.td cInt (ordR x y)])) := by
  refine efn2 EB6_ok Try.func51 rfl (by kernel_rfl) 34 rfl _ rfl (by kernel_rfl) fun E hY x y hp => ?_
  refine e_run hY 400 (by kernel_rfl) ?_
  repeat' (first | (refine And.intro ?_ ?_ <;> intro _) | (refine And.intro ?_ ?_; (exact trivial)) | (refine And.intro ?_ ?_; (exact Nat.le_of_ble_eq_true rfl)) | (refine And.intro ?_ ?_; (omega)))
  all_goals exact And.intro rfl trivial

set_option maxHeartbeats 4000000 in
set_option maxRecDepth 100000 in
theorem rof_e {K : Prop} : FE.ok Try.prog K (fe3 26 (.v cFacts) (.v cInt) (.v .str) (fun x y z => x.length < 1000000) (fun x y z => [.td cFacts (x.filter (ofP y z))])) := by
  refine efn3 EB5_ok Try.func26 rfl (by kernel_rfl) 43 rfl _ rfl (by kernel_rfl) fun E hY x y z hp => ?_
  refine e_run hY 400 (by kernel_rfl) ?_
  refine e_nil 7 64 cFact 0 rfl rfl (by rw [← hY.n0]; exact Nat.le_refl _) ?_
  refine e_loop hY 0 rfl (α := Nat) (fun i => ([(8, .td cInt (i : Int)), (7, .row 0)], [.row 64 cFact ((x.take i).filter (ofP y z))])) (fun i => i ≤ x.length) (fun i => x.length - i) 0 (Nat.zero_le _) ?_ fun i hi => ?_
  · repeat (first | exact trivial | (refine And.intro ?_ ?_; (rfl)))
  · have hn := List.length_filter_le (ofP y z) (x.take i)
    rw [List.length_take] at hn
    generalize hL : (x.take i).filter (ofP y z) = L at hn ⊢
    refine e_run hY 400 (by kernel_rfl) ?_
    refine And.intro (fun h1 => ?_) (fun h1 => ?_)
    · have hlt : i < x.length := nat_t h1
      have yes : ofP y z (x.getD i cFact.dflt) = true → L ++ [x.getD i cFact.dflt] = (x.take (i + 1)).filter (ofP y z) := fun h => by rw [← hL]; exact filt_yes cFact.dflt hlt h
      have no : ofP y z (x.getD i cFact.dflt) = false → L = (x.take (i + 1)).filter (ofP y z) := fun h => by rw [← hL]; exact filt_no cFact.dflt hlt h
      repeat' (first | (refine And.intro (fun h => ?_) (fun h => ?_)) | (refine And.intro ?_ ?_; (first | (exact trivial) | (omega) | (simp only [Int.toNat_natCast, List.length_append, List.length_cons, List.length_nil]; omega))))
      all_goals (refine e_back (i + 1) hlt (by omega) ?_)
      all_goals (repeat (first | exact trivial | (refine And.intro ?_ ?_; (first | (rfl) | (refine yes ?_; simp only [ofP]; grind) | (refine no ?_; simp only [ofP]; grind)))))
    · have hge := nat_f h1
      refine And.intro ?_ trivial
      rw [List.take_of_length_le hge] at hL
      exact hL.symm

def F7 : List FE := [fe2 51 (.v cFact) (.v cFact) (fun x y => True) (fun x y => [.td cInt (ordR x y)]), fe3 25 (.v cFacts) (.v cInt) (.v .str) (fun x y z => x.length < 1000000) (fun x y z => [.td cFacts (x.filter (ofP y z))]), fe3 26 (.v cFacts) (.v cInt) (.v .str) (fun x y z => x.length < 1000000) (fun x y z => [.td cFacts (x.filter (ofP y z))])] ++ F6
def EB7 : EB := ebOf TTa F7 QQ
theorem F7_ok {K : Prop} : AllFE Try.prog K F7 := AllFE.append ⟨rorder_e, of_e, rof_e, trivial⟩ F6_ok
theorem EB7_ok {K : Prop} : EBok EB7 Try.prog K := ebOf_ok mixP TTa_ok F7_ok QQ_ok

set_option maxHeartbeats 4000000 in
set_option maxRecDepth 100000 in
theorem rord_e {K : Prop} : FE.ok Try.prog K (fe1 54 (.v cFacts) (fun x => x.length < 1000000) (fun x => [.td cFacts (orderR x)])) := by
  refine efn1 EB7_ok Try.func54 rfl (by kernel_rfl) 50 rfl _ rfl (by kernel_rfl) fun E hY x hp => ?_
  refine e_run hY 400 (by kernel_rfl) ?_
  refine e_lp ?_
  refine e_loop hY 0 rfl (α := Nat) (fun i => ([(3, .td cFacts (orderR (x.take i))), (4, .td cInt (i : Int))], [])) (fun i => i ≤ x.length) (fun i => x.length - i) 0 (Nat.zero_le _) ?_ fun i hi => ?_
  · repeat (first | exact trivial | (refine And.intro ?_ ?_; (rfl)))
  · have hle := orderR_length (x.take i)
    rw [List.length_take] at hle
    have hsn : ∀ h : i < x.length, orderR (x.take (i + 1)) = insR (orderR (x.take i)) (x.getD i cFact.dflt) := fun h => by rw [take_getD cFact.dflt h, orderR_snoc]
    generalize hL : orderR (x.take i) = L at hle hsn ⊢
    refine e_run hY 400 (by kernel_rfl) ?_
    refine And.intro (fun h1 => ?_) (fun h1 => ?_)
    · have hlt := nat_t h1
      have hsn := hsn hlt
      have hpl := pos_le L (x.getD i cFact.dflt) L.length
      refine e_lp ?_
      refine e_loop hY 1 rfl (α := Nat) (fun k => ([(5, .td cInt (k : Int))], [])) (fun k => k ≤ L.length ∧ pos L (x.getD i cFact.dflt) L.length = pos L (x.getD i cFact.dflt) k) (fun k => k) L.length ⟨Nat.le_refl _, rfl⟩ ?_ fun k hk => ?_
      · repeat (first | exact trivial | (refine And.intro ?_ ?_; (rfl)))
      · obtain ⟨hk, hd⟩ := hk
        refine e_run hY 700 (by kernel_rfl) ?_
        have stop : (k = 0 ∨ latR (L.getD (k - 1) dF) (x.getD i cFact.dflt) = false) → L.take k ++ [x.getD i cFact.dflt] ++ L.drop k = orderR (x.take (i + 1)) := fun h => by
          have hp : pos L (x.getD i cFact.dflt) k = k := by
            cases k with
            | zero => rfl
            | succ k =>
              rcases h with h | h
              · omega
              · unfold pos; rw [if_neg (by simpa using h)]
          rw [hsn]; unfold insR; rw [hd, hp]
        refine And.intro (fun g1 => ?_) (fun g1 => ?_)
        · have hk0 : 0 < k := by have := d_t g1; omega
          have ek : ((k : Int) - 1).toNat = k - 1 := by omega
          repeat (first | (refine And.intro ?_ ?_; (first | (exact trivial) | (omega))))
          refine And.intro (fun g2 => ?_) (fun g2 => ?_)
          · have g3 : latR (L.getD (k - 1) dF) (x.getD i cFact.dflt) = true := by rw [← ek]; exact g2
            repeat (first | (refine And.intro ?_ ?_; (first | (exact trivial) | (omega))))
            refine e_back (k - 1) ⟨by omega, ?_⟩ (by omega) ?_
            · rw [hd]
              obtain ⟨q, rfl⟩ : ∃ q, k = q + 1 := ⟨k - 1, by omega⟩
              conv => lhs; unfold pos
              rw [Nat.add_sub_cancel] at g3 ⊢
              rw [if_pos g3]
            · have e9 : (k : Int) - 1 = ((k - 1 : Nat) : Int) := by omega
              repeat (first | exact trivial | (refine And.intro ?_ ?_; (first | rfl | exact e9)))
          · have g3 : latR (L.getD (k - 1) dF) (x.getD i cFact.dflt) = false := by rw [← ek]; exact g2
            repeat (first | (refine And.intro ?_ ?_; (first | (exact trivial) | (exact Nat.le_of_ble_eq_true rfl) | (omega) | (simp only [Int.toNat_natCast, List.length_append, List.length_cons, List.length_nil, List.length_take, List.length_drop]; omega))))
            refine e_skip rfl (e_back (i + 1) hlt (by omega) ?_)
            refine And.intro (stop (.inr g3)) ?_
            repeat (first | exact trivial | (refine And.intro ?_ ?_; (rfl)))
        · have hk0 : k = 0 := by have := d_f g1; omega
          repeat (first | (refine And.intro ?_ ?_; (first | (exact trivial) | (exact Nat.le_of_ble_eq_true rfl) | (omega) | (simp only [Int.toNat_natCast, List.length_append, List.length_cons, List.length_nil, List.length_take, List.length_drop]; omega))))
          refine e_skip rfl (e_back (i + 1) hlt (by omega) ?_)
          refine And.intro (stop (.inl hk0)) ?_
          repeat (first | exact trivial | (refine And.intro ?_ ?_; (rfl)))
    · have hge := nat_f h1
      refine And.intro ?_ trivial
      rw [List.take_of_length_le hge] at hL
      exact hL.symm

def F8 : List FE := [fe1 54 (.v cFacts) (fun x => x.length < 1000000) (fun x => [.td cFacts (orderR x)])] ++ F7
def EB8 : EB := ebOf TTa F8 QQ
theorem F8_ok {K : Prop} : AllFE Try.prog K F8 := AllFE.append ⟨rord_e, trivial⟩ F7_ok
theorem EB8_ok {K : Prop} : EBok EB8 Try.prog K := ebOf_ok mixP TTa_ok F8_ok QQ_ok

set_option maxHeartbeats 4000000 in
set_option maxRecDepth 100000 in
theorem rall_e {K : Prop} : FE.ok Try.prog K (fe1 29 (.v cFacts) (fun x => x.length < 1000000) (fun x => [.td (.list .str) (allR x)])) := by
  refine efn1 EB8_ok Try.func29 rfl (by kernel_rfl) 23 rfl _ rfl (by kernel_rfl) fun E hY x hp => ?_
  refine e_run hY 400 (by kernel_rfl) ?_
  repeat (first | (refine And.intro ?_ ?_; (first | (exact trivial) | (exact Nat.le_of_ble_eq_true rfl) | (omega) | (simp only [Int.toNat_natCast, List.length_append, List.length_cons, List.length_nil, List.length_take, List.length_drop]; omega))))
  have hlo := orderR_length x
  refine e_lp ?_
  refine e_nil 3 9 .str 0 rfl rfl (by rw [← hY.n0]; exact Nat.le_refl _) ?_
  refine e_loop hY 0 rfl (α := Nat) (fun i => ([(3, .row 0), (5, .td cInt (i : Int))], [.row 9 .str ((orderR x).take i |>.map valR)])) (fun i => i ≤ x.length) (fun i => x.length - i) 0 (Nat.zero_le _) ?_ fun i hi => ?_
  · repeat (first | exact trivial | (refine And.intro ?_ ?_; (rfl)))
  · refine e_run hY 400 (by kernel_rfl) ?_
    have hle : ((orderR x).take i |>.map valR).length ≤ i := by rw [List.length_map, List.length_take]; omega
    generalize hL : ((orderR x).take i |>.map valR) = L at hle ⊢
    refine And.intro (fun h1 => ?_) (fun h1 => ?_)
    · have hlt := nat_t h1
      have hst := map_step (f := valR) (l := orderR x) cFact.dflt hlt
      rw [hL] at hst
      repeat (first | (refine And.intro ?_ ?_; (first | (exact trivial) | (exact Nat.le_of_ble_eq_true rfl) | (omega) | (simp only [Int.toNat_natCast, List.length_append, List.length_cons, List.length_nil, List.length_take, List.length_drop]; omega))))
      refine e_back (i + 1) (by omega) (by omega) ?_
      repeat (first | exact trivial | (refine And.intro ?_ ?_; (first | rfl | exact hst)))
    · have hge := nat_f h1
      refine And.intro ?_ trivial
      rw [List.take_of_length_le hge] at hL
      exact hL.symm

def F9 : List FE := [fe1 29 (.v cFacts) (fun x => x.length < 1000000) (fun x => [.td (.list .str) (allR x)])] ++ F8
def EB9 : EB := ebOf TTa F9 QQ
theorem F9_ok {K : Prop} : AllFE Try.prog K F9 := AllFE.append ⟨rall_e, trivial⟩ F8_ok
theorem EB9_ok {K : Prop} : EBok EB9 Try.prog K := ebOf_ok mixP TTa_ok F9_ok QQ_ok

set_option maxHeartbeats 4000000 in
set_option maxRecDepth 100000 in
theorem rlast_e {K : Prop} : FE.ok Try.prog K (fe1 23 (.v cFacts) (fun x => x.length < 1000000) (fun x => [.td .str (lastR x), .td .bool (decide (0 < x.length))])) := by
  refine efn1 EB9_ok Try.func23 rfl (by kernel_rfl) 16 rfl _ rfl (by kernel_rfl) fun E hY x hp => ?_
  refine e_run hY 400 (by kernel_rfl) ?_
  repeat (first | (refine And.intro ?_ ?_; (first | (exact trivial) | (exact Nat.le_of_ble_eq_true rfl) | (omega) | (simp only [Int.toNat_natCast, List.length_append, List.length_cons, List.length_nil, List.length_take, List.length_drop]; omega))))
  have hlo := allR_length x
  refine And.intro (fun h1 => ?_) (fun h1 => ?_)
  · have h2 : x.length = 0 := by have := d_t h1; omega
    have e1 : (⟨#[]⟩ : ByteArray) = lastR x := by
      have : allR x = [] := List.eq_nil_of_length_eq_zero (by omega)
      unfold lastR; rw [this]; rfl
    repeat (first | exact trivial | (refine And.intro ?_ ?_; (first | exact e1 | (simp only [h2]; rfl) | omega)))
  · have h2 : 0 < x.length := by have := d_f h1; omega
    repeat (first | exact trivial | (refine And.intro ?_ ?_; (first | omega | (unfold lastR; rw [← hlo]; congr 1; omega) | (simp only [h2]; rfl))))

set_option maxHeartbeats 4000000 in
set_option maxRecDepth 100000 in
theorem rel_e {K : Prop} : FE.ok Try.prog K (fe1 31 (.v cFacts) (fun x => x.length < 1000000) (fun x => [.td (.list .str) (elR x)])) := by
  refine efn1 EB9_ok Try.func31 rfl (by kernel_rfl) 67 rfl _ rfl (by kernel_rfl) fun E hY x hp => ?_
  refine e_run hY 400 (by kernel_rfl) ?_
  refine e_lp ?_
  refine e_loop hY 0 rfl (α := Nat) (fun i => ([(3, .td (.list .str) (sortK lessS ((x.take i).map valR))), (4, .td cInt (i : Int))], [])) (fun i => i ≤ x.length) (fun i => x.length - i) 0 (Nat.zero_le _) ?_ fun i hi => ?_
  · repeat (first | exact trivial | (refine And.intro ?_ ?_; (rfl)))
  · have hle := sortK_length_le (lt := lessS) ((x.take i).map valR)
    rw [List.length_map, List.length_take] at hle
    have hinc := (sortK_facts stoStr ((x.take i).map valR)).1
    have hsn : ∀ h : i < x.length, sortK lessS ((x.take (i + 1)).map valR) = insK lessS (sortK lessS ((x.take i).map valR)) (valR (x.getD i cFact.dflt)) := fun h => by rw [take_getD cFact.dflt h, List.map_append, List.map_cons, List.map_nil, sortK_snoc]
    have hfin : x.length ≤ i → sortK lessS ((x.take i).map valR) = elR x := fun h => by rw [List.take_of_length_le h]; rfl
    generalize sortK lessS ((x.take i).map valR) = L at hle hinc hsn hfin ⊢
    refine e_run hY 400 (by kernel_rfl) ?_
    refine And.intro (fun h1 => ?_) (fun h1 => ?_)
    · have hlt := nat_t h1
      have hsn := hsn hlt
      refine e_lp ?_
      refine e_loop hY 1 rfl (α := Nat) (fun k => ([(5, .td cInt (k : Int))], [])) (fun k => k ≤ L.length ∧ ∀ j, j < k → lessS (L.getD j ⟨#[]⟩) (valR (x.getD i cFact.dflt)) = true) (fun k => L.length - k) 0 ⟨Nat.zero_le _, fun j hj => by omega⟩ ?_ fun k hk => ?_
      · repeat (first | exact trivial | (refine And.intro ?_ ?_; (rfl)))
      · obtain ⟨hk, hd⟩ := hk
        have here : k < L.length → L.getD k ⟨#[]⟩ = valR (x.getD i cFact.dflt) → L = sortK lessS ((x.take (i + 1)).map valR) := fun h1 h2 => by
          rw [hsn]; unfold insK; rw [if_pos (by rw [← h2]; exact mem_getD _ h1)]
        have stop : (k = L.length ∨ lessS (L.getD k ⟨#[]⟩) (valR (x.getD i cFact.dflt)) = false ∧ ¬ L.getD k ⟨#[]⟩ = valR (x.getD i cFact.dflt)) → L.take k ++ [valR (x.getD i cFact.dflt)] ++ L.drop k = sortK lessS ((x.take (i + 1)).map valR) := fun h => by
          obtain ⟨e1, e2⟩ := tw_at (p := fun y => lessS y (valR (x.getD i cFact.dflt))) ⟨#[]⟩ hk hd (h.imp id And.left)
          rw [hsn]; unfold insK; rw [if_neg (notin_at stoStr ⟨#[]⟩ hinc hk hd h), e1, e2]; simp
        refine e_run hY 700 (by kernel_rfl) ?_
        refine And.intro (fun g1 => ?_) (fun g1 => ?_)
        · have hkl := nat_t g1
          repeat (first | (refine And.intro ?_ ?_; (first | (exact trivial) | (exact Nat.le_of_ble_eq_true rfl) | (omega) | (simp only [Int.toNat_natCast, List.length_append, List.length_cons, List.length_nil, List.length_take, List.length_drop]; omega))))
          refine And.intro (fun g2 => ?_) (fun g2 => ?_)
          · repeat (first | (refine And.intro ?_ ?_; (first | (exact trivial) | (exact Nat.le_of_ble_eq_true rfl) | (omega) | (simp only [Int.toNat_natCast, List.length_append, List.length_cons, List.length_nil, List.length_take, List.length_drop]; omega))))
            refine e_back (k + 1) ⟨hkl, fun j hj => ?_⟩ (by omega) ?_
            · by_cases hjk : j = k
              · subst hjk; exact g2
              · exact hd j (by omega)
            · repeat (first | exact trivial | (refine And.intro ?_ ?_; (rfl)))
          · refine And.intro (fun g3 => ?_) (fun g3 => ?_)
            · repeat (first | (refine And.intro ?_ ?_; (first | (exact trivial) | (exact Nat.le_of_ble_eq_true rfl) | (omega) | (simp only [Int.toNat_natCast, List.length_append, List.length_cons, List.length_nil, List.length_take, List.length_drop]; omega))))
              refine And.intro (fun g4 => ?_) (fun g4 => ?_)
              · repeat (first | (refine And.intro ?_ ?_; (first | (exact trivial) | (exact Nat.le_of_ble_eq_true rfl) | (omega) | (simp only [Int.toNat_natCast, List.length_append, List.length_cons, List.length_nil, List.length_take, List.length_drop]; omega))))
                refine e_skip rfl (e_back (i + 1) hlt (by omega) ?_)
                refine And.intro (here hkl (d_t g4)) ?_
                repeat (first | exact trivial | (refine And.intro ?_ ?_; (rfl)))
              · repeat (first | (refine And.intro ?_ ?_; (first | (exact trivial) | (exact Nat.le_of_ble_eq_true rfl) | (omega) | (simp only [Int.toNat_natCast, List.length_append, List.length_cons, List.length_nil, List.length_take, List.length_drop]; omega))))
                refine e_skip rfl (e_back (i + 1) hlt (by omega) ?_)
                refine And.intro (stop (.inr ⟨g2, d_f g4⟩)) ?_
                repeat (first | exact trivial | (refine And.intro ?_ ?_; (rfl)))
            · exfalso
              have := nat_f g3
              omega
        · have hkl := nat_f g1
          refine And.intro (fun g3 => ?_) (fun g3 => ?_)
          · exfalso
            have := nat_t g3
            omega
          · repeat (first | (refine And.intro ?_ ?_; (first | (exact trivial) | (exact Nat.le_of_ble_eq_true rfl) | (omega) | (simp only [Int.toNat_natCast, List.length_append, List.length_cons, List.length_nil, List.length_take, List.length_drop]; omega))))
            refine e_skip rfl (e_back (i + 1) hlt (by omega) ?_)
            refine And.intro (stop (.inl (by omega))) ?_
            repeat (first | exact trivial | (refine And.intro ?_ ?_; (rfl)))
    · have hge := nat_f h1
      refine And.intro ?_ trivial
      exact hfin hge

end Go.Proofs.Ytpehmadeklaebaa.V
