/-
  GR
-/
import Derived.Test.YtpehmadeklaebaaZG17
namespace Go.Proofs.Ytpehmadeklaebaa.V
open Go Go.RowKit
set_option linter.unusedVariables false
set_option linter.unusedSimpArgs false

set_option maxHeartbeats 4000000 in
set_option maxRecDepth 100000 in
theorem clone_m {K : Prop} : MS.ok Try.prog K 52 (msA [.v cFacts] (fun x => (fun x => x.length < 1000000) x.1) 64 cFact (fun x => (fun x l => x = l) x.1)) := by
  refine emA1 (a1 := .v cFacts) (a := cFact) (pre := fun x => x.length < 1000000) (res := fun x l => x = l) EB7_ok Try.func52 rfl (by kernel_rfl) 8 rfl _ rfl false 2 rfl (by kernel_rfl) fun E hY x hp => ?_
  refine e_run hY 400 (by kernel_rfl) ?_
  intro b hb
  refine And.intro (fun h1 => ?_) (fun h1 => ?_)
  · repeat (first | exact trivial | (refine And.intro ?_ ?_; (exact hb h1)))
  · repeat (first | (refine And.intro ?_ ?_; (first | (exact trivial) | (exact Nat.le_of_ble_eq_true rfl) | (omega) | (simp only [Int.toNat_natCast, List.length_append, List.length_cons, List.length_nil, List.length_take, List.length_drop]; omega))))
    refine And.intro ?_ trivial
    rfl

theorem sortf_ms : MS.ok Try.prog False 53 (msU 64 cFact [.f 51] (fun l _ => l.length < 1000000) (fun l _ l' => sortedBy ordR l l')) := msU_ok fun v l x hx => sortf_m 51 ordR swoR rorder_e v l hx

theorem sorts_ms : MS.ok Try.prog False 55 (msU 9 .str [] (fun l _ => l.length < 1000000) (fun l _ l' => strSorted l l')) := msU_ok fun v l x hx => sortstr_m v l hx

def MA : List (FuncId × MS) := [(52, msA [.v cFacts] (fun x => (fun x => x.length < 1000000) x.1) 64 cFact (fun x => (fun x l => x = l) x.1)), (53, msU 64 cFact [.f 51] (fun l _ => l.length < 1000000) (fun l _ l' => sortedBy ordR l l'))]
def EBA : EB := ebM TTa F7 QQ MA
theorem EBA_ok : EBok EBA Try.prog False := ebM_ok mixP TTa_ok F7_ok QQ_ok ⟨clone_m, sortf_ms, trivial⟩

set_option maxHeartbeats 4000000 in
set_option maxRecDepth 100000 in
theorem all_m : MS.ok Try.prog False 28 (msA [.v cFacts] (fun x => (fun x => x.length < 1000000) x.1) 9 .str (fun x => (fun x l => l = allR x) x.1)) := by
  refine emA1 (a1 := .v cFacts) (a := .str) (pre := fun x => x.length < 1000000) (res := fun x l => l = allR x) EBA_ok Try.func28 rfl (by kernel_rfl) 24 rfl _ rfl false 2 rfl (by kernel_rfl) fun E hY x hp => ?_
  refine e_run hY 400 (by kernel_rfl) ?_
  repeat (first | (refine And.intro ?_ ?_; (first | (exact trivial) | (exact Nat.le_of_ble_eq_true rfl) | (omega) | (simp only [Int.toNat_natCast, List.length_append, List.length_cons, List.length_nil, List.length_take, List.length_drop]; omega))))
  intro s hs
  subst hs
  repeat (first | (refine And.intro ?_ ?_; (first | (exact trivial) | (exact Nat.le_of_ble_eq_true rfl) | (omega) | (simp only [Int.toNat_natCast, List.length_append, List.length_cons, List.length_nil, List.length_take, List.length_drop]; omega))))
  intro m hm
  have hml : m.length = x.length := hm.1.length_eq
  refine e_lp ?_
  refine e_nil 4 9 .str 1 rfl rfl (by rw [← hY.n0]; exact Nat.le_of_ble_eq_true rfl) ?_
  refine e_loop hY 0 rfl (α := Nat) (fun i => ([(4, .row 1), (13, .td cInt (i : Int))], [.row 64 cFact m, .row 9 .str ((m.take i).map valR)])) (fun i => i ≤ m.length) (fun i => m.length - i) 0 (Nat.zero_le _) ?_ fun i hi => ?_
  · repeat (first | exact trivial | (refine And.intro ?_ ?_; (rfl)))
  · refine e_run hY 400 (by kernel_rfl) ?_
    have hle : ((m.take i).map valR).length ≤ i := by rw [List.length_map, List.length_take]; omega
    have hst : ∀ h : i < m.length, (m.take i).map valR ++ [valR (m.getD i cFact.dflt)] = (m.take (i + 1)).map valR := fun h => map_step (f := valR) (l := m) cFact.dflt h
    have hfin : m.length ≤ i → (m.take i).map valR = allR x := fun h => by rw [List.take_of_length_le h]; exact allR_of hm.1 hm.2
    generalize (m.take i).map valR = L at hle hst hfin ⊢
    refine And.intro (fun h1 => ?_) (fun h1 => ?_)
    · have hlt := nat_t h1
      repeat (first | (refine And.intro ?_ ?_; (first | (exact trivial) | (exact Nat.le_of_ble_eq_true rfl) | (omega) | (simp only [Int.toNat_natCast, List.length_append, List.length_cons, List.length_nil, List.length_take, List.length_drop]; omega))))
      refine e_back (i + 1) (by omega) (by omega) ?_
      repeat (first | exact trivial | (refine And.intro ?_ ?_; (first | rfl | exact hst hlt)))
    · have hge := nat_f h1
      refine And.intro ?_ trivial
      exact hfin hge

set_option maxHeartbeats 4000000 in
set_option maxRecDepth 100000 in
theorem all_e : FE.ok Try.prog False (fe1 28 (.v cFacts) (fun x => x.length < 1000000) (fun x => [.td (.list .str) (allR x)])) := by
  refine efn1 EBA_ok Try.func28 rfl (by kernel_rfl) 24 rfl _ rfl (by kernel_rfl) fun E hY x hp => ?_
  refine e_run hY 400 (by kernel_rfl) ?_
  repeat (first | (refine And.intro ?_ ?_; (first | (exact trivial) | (exact Nat.le_of_ble_eq_true rfl) | (omega) | (simp only [Int.toNat_natCast, List.length_append, List.length_cons, List.length_nil, List.length_take, List.length_drop]; omega))))
  intro s hs
  subst hs
  repeat (first | (refine And.intro ?_ ?_; (first | (exact trivial) | (exact Nat.le_of_ble_eq_true rfl) | (omega) | (simp only [Int.toNat_natCast, List.length_append, List.length_cons, List.length_nil, List.length_take, List.length_drop]; omega))))
  intro m hm
  have hml : m.length = x.length := hm.1.length_eq
  refine e_lp ?_
  refine e_nil 4 9 .str 1 rfl rfl (by rw [← hY.n0]; exact Nat.le_of_ble_eq_true rfl) ?_
  refine e_loop hY 0 rfl (α := Nat) (fun i => ([(4, .row 1), (13, .td cInt (i : Int))], [.row 64 cFact m, .row 9 .str ((m.take i).map valR)])) (fun i => i ≤ m.length) (fun i => m.length - i) 0 (Nat.zero_le _) ?_ fun i hi => ?_
  · repeat (first | exact trivial | (refine And.intro ?_ ?_; (rfl)))
  · refine e_run hY 400 (by kernel_rfl) ?_
    have hle : ((m.take i).map valR).length ≤ i := by rw [List.length_map, List.length_take]; omega
    have hst : ∀ h : i < m.length, (m.take i).map valR ++ [valR (m.getD i cFact.dflt)] = (m.take (i + 1)).map valR := fun h => map_step (f := valR) (l := m) cFact.dflt h
    have hfin : m.length ≤ i → (m.take i).map valR = allR x := fun h => by rw [List.take_of_length_le h]; exact allR_of hm.1 hm.2
    generalize (m.take i).map valR = L at hle hst hfin ⊢
    refine And.intro (fun h1 => ?_) (fun h1 => ?_)
    · have hlt := nat_t h1
      repeat (first | (refine And.intro ?_ ?_; (first | (exact trivial) | (exact Nat.le_of_ble_eq_true rfl) | (omega) | (simp only [Int.toNat_natCast, List.length_append, List.length_cons, List.length_nil, List.length_take, List.length_drop]; omega))))
      refine e_back (i + 1) (by omega) (by omega) ?_
      repeat (first | exact trivial | (refine And.intro ?_ ?_; (first | rfl | exact hst hlt)))
    · have hge := nat_f h1
      refine And.intro ?_ trivial
      exact hfin hge

set_option maxHeartbeats 4000000 in
set_option maxRecDepth 100000 in
theorem max_e {K : Prop} : FE.ok Try.prog K (fe2 50 (.v cFacts) (.f 51) (fun x y => 0 < x.length ∧ x.length < 1000000) (fun x y => [.td cFact (maxP x (x.length - 1))])) := by
  refine efn2 EB7_ok Try.func50 rfl (by kernel_rfl) 33 rfl _ rfl (by kernel_rfl) fun E hY x y hp => ?_
  refine e_run hY 400 (by kernel_rfl) ?_
  refine And.intro (fun h1 => ?_) (fun h1 => ?_)
  · exfalso
    have := d_t h1
    omega
  · repeat (first | (refine And.intro ?_ ?_; (first | (exact trivial) | (exact Nat.le_of_ble_eq_true rfl) | (omega) | (simp only [Int.toNat_natCast, List.length_append, List.length_cons, List.length_nil, List.length_take, List.length_drop]; omega))))
    refine e_lp ?_
    refine e_loop hY 0 rfl (α := Nat) (fun i => ([(6, .td cInt ((i + 1 : Nat) : Int))], [.cell 64 (.td cFact dF), .cell 64 (.td cFact (maxP x i))])) (fun i => i < x.length) (fun i => x.length - i) 0 hp.1 ?_ fun i hi => ?_
    · repeat (first | exact trivial | (refine And.intro ?_ ?_; (rfl)))
    · refine e_run hY 400 (by kernel_rfl) ?_
      have hl2 := hp.2
      refine And.intro (fun h1 => ?_) (fun h1 => ?_)
      · have hlt := nat_t h1
        have ei : (((i + 1 : Nat) : Int)).toNat = i + 1 := by omega
        have e9 : ((i + 1 : Nat) : Int) + 1 = ((i + 1 + 1 : Nat) : Int) := by omega
        repeat (first | (refine And.intro ?_ ?_; (first | (exact trivial) | (exact Nat.le_of_ble_eq_true rfl) | (omega) | (simp only [Int.toNat_natCast, List.length_append, List.length_cons, List.length_nil, List.length_take, List.length_drop]; omega))))
        refine And.intro (fun h2 => ?_) (fun h2 => ?_)
        · have h3 : 0 < ordR (x.getD (i + 1) dF) (maxP x i) := by have := d_t h2; rw [ei] at this; exact this
          have hm : x.getD (i + 1) dF = maxP x (i + 1) := by rw [maxP, if_pos h3]
          repeat (first | (refine And.intro ?_ ?_; (first | (exact trivial) | (exact Nat.le_of_ble_eq_true rfl) | (omega) | (simp only [Int.toNat_natCast, List.length_append, List.length_cons, List.length_nil, List.length_take, List.length_drop]; omega))))
          refine e_back (i + 1) hlt (by omega) ?_
          repeat (first | exact trivial | (refine And.intro ?_ ?_; (first | rfl | exact e9 | exact hm)))
        · have h3 : ¬ 0 < ordR (x.getD (i + 1) dF) (maxP x i) := by have := d_f h2; rw [ei] at this; exact this
          have hm : maxP x i = maxP x (i + 1) := by rw [maxP, if_neg h3]
          repeat (first | (refine And.intro ?_ ?_; (first | (exact trivial) | (exact Nat.le_of_ble_eq_true rfl) | (omega) | (simp only [Int.toNat_natCast, List.length_append, List.length_cons, List.length_nil, List.length_take, List.length_drop]; omega))))
          refine e_back (i + 1) hlt (by omega) ?_
          repeat (first | exact trivial | (refine And.intro ?_ ?_; (first | rfl | exact e9 | exact hm)))
      · have hge := nat_f h1
        have hi' : i = x.length - 1 := by omega
        refine And.intro ?_ trivial
        rw [hi']

def FR1 : List FE := [fe2 50 (.v cFacts) (.f 51) (fun x y => 0 < x.length ∧ x.length < 1000000) (fun x y => [.td cFact (maxP x (x.length - 1))])] ++ F7
def EBR1 : EB := ebOf TTa FR1 QQ
theorem FR1_ok {K : Prop} : AllFE Try.prog K FR1 := AllFE.append ⟨max_e, trivial⟩ F7_ok
theorem EBR1_ok {K : Prop} : EBok EBR1 Try.prog K := ebOf_ok mixP TTa_ok FR1_ok QQ_ok

set_option maxHeartbeats 4000000 in
set_option maxRecDepth 100000 in
theorem last_e {K : Prop} : FE.ok Try.prog K (fe1 22 (.v cFacts) (fun x => x.length < 1000000) (fun x => [.td .str (lastR x), .td .bool (decide (0 < x.length))])) := by
  refine efn1 EBR1_ok Try.func22 rfl (by kernel_rfl) 10 rfl _ rfl (by kernel_rfl) fun E hY x hp => ?_
  refine e_run hY 400 (by kernel_rfl) ?_
  refine And.intro (fun h1 => ?_) (fun h1 => ?_)
  · have h2 : x.length = 0 := by have := d_t h1; omega
    have e1 : (⟨#[]⟩ : ByteArray) = lastR x := by
      have : allR x = [] := List.eq_nil_of_length_eq_zero (by rw [allR_length]; exact h2)
      unfold lastR; rw [this]; rfl
    repeat (first | exact trivial | (refine And.intro ?_ ?_; (first | exact e1 | (simp only [h2]; rfl))))
  · have h2 : 0 < x.length := by have := d_f h1; omega
    have e1 : valR (maxP x (x.length - 1)) = lastR x := maxP_last h2
    repeat (first | exact trivial | (refine And.intro ?_ ?_; (first | exact ⟨h2, hp⟩ | exact e1 | (simp only [h2]; rfl))))

set_option maxHeartbeats 4000000 in
set_option maxRecDepth 100000 in
theorem compact_m {K : Prop} : MS.ok Try.prog K 56 (msR 9 .str [] (fun x _ => x.length < 1000000) (fun x _ l => compact x = l)) := by
  refine emR0 (a := .str) (pre := fun x => x.length < 1000000) (res := fun x l => compact x = l) EB7_ok Try.func56 rfl (by kernel_rfl) 61 rfl _ rfl true 2 rfl (by kernel_rfl) fun E hY x hp => ?_
  refine e_run hY 400 (by kernel_rfl) ?_
  refine And.intro (fun h1 => ?_) (fun h1 => ?_)
  · have h2 : x.length < 2 := by have := d_t h1; omega
    refine And.intro ?_ trivial
    exact compact_short h2
  · have h2 : 2 ≤ x.length := by have := d_f h1; omega
    repeat (first | (refine And.intro ?_ ?_; (first | (exact trivial) | (exact Nat.le_of_ble_eq_true rfl) | (omega) | (simp only [Int.toNat_natCast, List.length_append, List.length_cons, List.length_nil, List.length_take, List.length_drop]; omega))))
    refine e_lp ?_
    refine e_loop hY 0 rfl (α := Nat) (fun k => ([(3, .td cInt (k : Int))], [.row 9 .str x])) (fun k => 0 < k ∧ k ≤ x.length ∧ compact (x.take k) = x.take k) (fun k => x.length - k) 1 ⟨by omega, by omega, compact_short (by rw [List.length_take]; omega)⟩ ?_ fun k hk => ?_
    · repeat (first | exact trivial | (refine And.intro ?_ ?_; (rfl)))
    · obtain ⟨hk0, hk, hc⟩ := hk
      refine e_run hY 400 (by kernel_rfl) ?_
      refine And.intro (fun h3 => ?_) (fun h3 => ?_)
      · have hlt := nat_t h3
        have ek : ((k : Int) - 1).toNat = k - 1 := by omega
        have ek2 : ((k : Int)).toNat = k := by omega
        have gk : x[k]? = some (x.getD k ⟨#[]⟩) := by rw [getD_at _ hlt]; exact List.getElem?_eq_getElem hlt
        have gk1 : x[k - 1]? = some (x.getD (k - 1) ⟨#[]⟩) := by rw [getD_at _ (by omega)]; exact List.getElem?_eq_getElem (by omega)
        repeat (first | (refine And.intro ?_ ?_; (first | (exact trivial) | (exact Nat.le_of_ble_eq_true rfl) | (omega) | (simp only [Int.toNat_natCast, List.length_append, List.length_cons, List.length_nil, List.length_take, List.length_drop]; omega))))
        refine And.intro (fun h4 => ?_) (fun h4 => ?_)
        · have h5 : x.getD k ⟨#[]⟩ = x.getD (k - 1) ⟨#[]⟩ := by have := d_t h4; rw [ek, ek2] at this; exact this
          repeat (first | (refine And.intro ?_ ?_; (first | (exact trivial) | (exact Nat.le_of_ble_eq_true rfl) | (omega) | (simp only [Int.toNat_natCast, List.length_append, List.length_cons, List.length_nil, List.length_take, List.length_drop]; omega))))
          refine e_lp ?_
          refine e_loop hY 1 rfl (α := Nat × Nat × List ByteArray) (fun a => match a with | (i, kk, m) => ([(3, .td cInt (kk : Int)), (5, .td cInt (i : Int))], [.row 9 .str m])) (fun a => 0 < a.1 ∧ k + a.1 ≤ x.length ∧ k ≤ a.2.1 ∧ CompG x a.2.2 (k + a.1) a.2.1) (fun a => x.length - (k + a.1)) (1, k, x) ⟨Nat.one_pos, by show k + 1 ≤ _; omega, Nat.le_refl _, CompG.start gk hk0 (h5 ▸ gk1) hc⟩ ?_ fun a ha => ?_
          · repeat (first | exact trivial | (refine And.intro ?_ ?_; (rfl)))
          · obtain ⟨i, kk, m⟩ := a
            obtain ⟨hi0, hi, hkk, hg⟩ := ha
            simp only at hi0 hi hkk hg
            have hms := hg.size
            have hkl := hg.lt
            have ei : ((i : Int) - 1).toNat = i - 1 := by omega
            have r1 : m.getD (k + i) ⟨#[]⟩ = x.getD (k + i) ⟨#[]⟩ := by rw [List.getD_eq_getElem?_getD, List.getD_eq_getElem?_getD, hg.high _ (by omega)]
            have r2 : m.getD (k + (i - 1)) ⟨#[]⟩ = x.getD (k + i - 1) ⟨#[]⟩ := by rw [List.getD_eq_getElem?_getD, List.getD_eq_getElem?_getD, hg.high _ (by omega), show k + (i - 1) = k + i - 1 by omega]
            refine e_run hY 400 (by kernel_rfl) ?_
            have hm0 : 0 < m.length := by omega
            refine And.intro hm0 ?_
            refine And.intro (fun h6 => ?_) (fun h6 => ?_)
            · have h7 : k + i < x.length := by have := d_t h6; omega
              have q1 : x[k + i]? = some (x.getD (k + i) ⟨#[]⟩) := by rw [getD_at _ h7]; exact List.getElem?_eq_getElem h7
              have q2 : x[k + i - 1]? = some (x.getD (k + i - 1) ⟨#[]⟩) := by rw [getD_at _ (by omega)]; exact List.getElem?_eq_getElem (by omega)
              repeat (first | (refine And.intro ?_ ?_; (first | (exact trivial) | (exact Nat.le_of_ble_eq_true rfl) | (omega) | (simp only [Int.toNat_natCast, List.length_append, List.length_cons, List.length_nil, List.length_take, List.length_drop]; omega))))
              refine And.intro (fun h8 => ?_) (fun h8 => ?_)
              · have h9 : ¬ x.getD (k + i) ⟨#[]⟩ = x.getD (k + i - 1) ⟨#[]⟩ := by have := nd_t h8; rw [ei] at this; rw [← r1, ← r2]; exact this
                have hkp := hg.keep q1 (by omega) q2 h9
                repeat (first | (refine And.intro ?_ ?_; (first | (exact trivial) | (exact Nat.le_of_ble_eq_true rfl) | (omega) | (simp only [Int.toNat_natCast, List.length_append, List.length_cons, List.length_nil, List.length_take, List.length_drop]; omega))))
                refine e_back (i + 1, kk + 1, m.set kk (x.getD (k + i) ⟨#[]⟩)) ⟨Nat.succ_pos _, by show k + (i + 1) ≤ _; omega, by show k ≤ kk + 1; omega, hkp⟩ (by show x.length - (k + (i + 1)) < x.length - (k + i); omega) ?_
                have e7 : m.set kk (m.getD (k + i) ⟨#[]⟩) = m.set kk (x.getD (k + i) ⟨#[]⟩) := by rw [r1]
                repeat (first | exact trivial | (refine And.intro ?_ ?_; (first | rfl | exact e7)))
              · have h9 : x.getD (k + i) ⟨#[]⟩ = x.getD (k + i - 1) ⟨#[]⟩ := by have := nd_f h8; rw [ei] at this; rw [← r1, ← r2]; exact this
                have hkp := hg.skip q1 (by omega) (h9 ▸ q2)
                repeat (first | (refine And.intro ?_ ?_; (first | (exact trivial) | (exact Nat.le_of_ble_eq_true rfl) | (omega) | (simp only [Int.toNat_natCast, List.length_append, List.length_cons, List.length_nil, List.length_take, List.length_drop]; omega))))
                refine e_back (i + 1, kk, m) ⟨Nat.succ_pos _, by show k + (i + 1) ≤ _; omega, hkk, hkp⟩ (by show x.length - (k + (i + 1)) < x.length - (k + i); omega) ?_
                repeat (first | exact trivial | (refine And.intro ?_ ?_; (rfl)))
            · have h7 : k + i = x.length := by have := d_f h6; omega
              rw [h7] at hg hkl
              obtain ⟨f1, f2⟩ := hg.all
              have f3 : (m.take kk).length = kk := by rw [List.length_take]; omega
              repeat (first | (refine And.intro ?_ ?_; (first | (exact trivial) | (exact Nat.le_of_ble_eq_true rfl) | (omega) | (simp only [Int.toNat_natCast, List.length_append, List.length_cons, List.length_nil, List.length_take, List.length_drop]; omega))))
              exact And.intro f1.symm trivial
        · have h5 : ¬ x.getD k ⟨#[]⟩ = x.getD (k - 1) ⟨#[]⟩ := by have := d_f h4; rw [ek, ek2] at this; exact this
          repeat (first | (refine And.intro ?_ ?_; (first | (exact trivial) | (exact Nat.le_of_ble_eq_true rfl) | (omega) | (simp only [Int.toNat_natCast, List.length_append, List.length_cons, List.length_nil, List.length_take, List.length_drop]; omega))))
          refine e_back (k + 1) ⟨by omega, by omega, compact_next gk hk0 gk1 h5 hc⟩ (by omega) ?_
          repeat (first | exact trivial | (refine And.intro ?_ ?_; (rfl)))
      · have hge := nat_f h3
        refine And.intro ?_ trivial
        rw [List.take_of_length_le hge] at hc
        exact hc

def MB : List (FuncId × MS) := [(28, msA [.v cFacts] (fun x => (fun x => x.length < 1000000) x.1) 9 .str (fun x => (fun x l => l = allR x) x.1)), (55, msU 9 .str [] (fun l _ => l.length < 1000000) (fun l _ l' => strSorted l l')), (56, msR 9 .str [] (fun x _ => x.length < 1000000) (fun x _ l => compact x = l))]
def EBB : EB := ebM TTa F7 QQ MB
theorem EBB_ok : EBok EBB Try.prog False := ebM_ok mixP TTa_ok F7_ok QQ_ok ⟨all_m, sorts_ms, compact_m, trivial⟩

set_option maxHeartbeats 4000000 in
set_option maxRecDepth 100000 in
theorem el_e : FE.ok Try.prog False (fe1 30 (.v cFacts) (fun x => x.length < 1000000) (fun x => [.td (.list .str) (elR x)])) := by
  refine efn1 EBB_ok Try.func30 rfl (by kernel_rfl) 10 rfl _ rfl (by kernel_rfl) fun E hY x hp => ?_
  refine e_run hY 400 (by kernel_rfl) ?_
  refine And.intro hp ?_
  intro s hs
  have hsl : s.length = x.length := by rw [hs]; exact allR_length x
  refine And.intro (by show s.length < 1000000; omega) ?_
  intro m hm
  have hml : m.length = s.length := hm.1.length_eq
  refine And.intro (by show m.length < 1000000; omega) ?_
  intro c hc
  refine And.intro ?_ trivial
  rw [← hc]
  exact elR_of (hs ▸ hm.1) hm.2

end Go.Proofs.Ytpehmadeklaebaa.V
