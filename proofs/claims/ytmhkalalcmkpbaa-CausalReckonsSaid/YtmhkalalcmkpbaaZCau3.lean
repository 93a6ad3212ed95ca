/-
  Cau Cau2 Cau3
-/
import Derived.Test.YtmhkalalcmkpbaaZDel
import Derived.Test.YtmhkalalcmkpbaaZDotRSort
namespace Go.Proofs.Ytmhkalalcmkpbaa
set_option linter.unusedVariables false
set_option linter.unusedSimpArgs false

abbrev CtxT := List Int × List (Int × Int)
def vget (v : List Int) (r : Int) : Int := v.getD r.toNat 0
def vhas (v : List Int) (d : Int × Int) : Bool := decide (chk d = 0) && decide (d.2 ≤ vget v d.1)
def hasC (c : CtxT) (d : Int × Int) : Bool := vhas c.1 d || (decide (chk d = 0) && decide (d ∈ c.2))
def clampI (n : Int) : Int := max 0 (min n 1099511627776)
def clStep (o : CtxT) (d : Int × Int) : CtxT := if chk d ≠ 0 ∨ vhas o.1 d = true then o else if d.2 = vget o.1 d.1 + 1 then (o.1.set d.1.toNat (vget o.1 d.1 + 1), o.2) else (o.1, o.2 ++ [d])
def cleanF (c : CtxT) : CtxT := (sortK ltD c.2).foldl clStep (c.1.map clampI, [])

theorem chk_iff (d : Int × Int) : chk d = 0 ↔ 0 ≤ d.1 ∧ d.1 < 16 ∧ 1 ≤ d.2 ∧ d.2 ≤ 1099511627776 := by
  unfold chk
  by_cases h : d.1 < 0 ∨ 16 ≤ d.1 ∨ d.2 < 1 ∨ 1099511627776 < d.2
  · rw [if_pos h]; simp only [show ((2 : Int) = 0) = False by simp, false_iff]; omega
  · rw [if_neg h]; simp only [true_iff]; omega
theorem vhas_iff (v : List Int) (d : Int × Int) : vhas v d = true ↔ chk d = 0 ∧ d.2 ≤ vget v d.1 := by unfold vhas; simp
theorem hasC_iff (c : CtxT) (d : Int × Int) : hasC c d = true ↔ chk d = 0 ∧ (d.2 ≤ vget c.1 d.1 ∨ d ∈ c.2) := by
  unfold hasC
  simp only [Bool.or_eq_true, vhas_iff, Bool.and_eq_true, decide_eq_true_eq]
  constructor
  · rintro (⟨h1, h2⟩ | ⟨h1, h2⟩)
    · exact ⟨h1, .inl h2⟩
    · exact ⟨h1, .inr h2⟩
  · rintro ⟨h1, h2 | h2⟩
    · exact .inl ⟨h1, h2⟩
    · exact .inr ⟨h1, h2⟩
theorem ltD_iff (a b : Int × Int) : ltD a b = true ↔ a.1 < b.1 ∨ (a.1 = b.1 ∧ a.2 < b.2) := by unfold ltD; simp

/-- A context whose vector is as great as can be, and whose cloud rises beyond it. -/
structure Clean (c : CtxT) : Prop where
  len : c.1.length = 16
  rng : ∀ n ∈ c.1, 0 ≤ n ∧ n ≤ 1099511627776
  inc : Inc ltD c.2
  ok : ∀ d ∈ c.2, chk d = 0 ∧ vget c.1 d.1 + 1 < d.2
theorem getD_lt {v : List Int} {i : Nat} (h : i < v.length) : v.getD i 0 = v[i] := by simp [List.getD, h]
theorem getD_ge {v : List Int} {i : Nat} (h : v.length ≤ i) : v.getD i 0 = 0 := by simp [List.getD, h]
theorem vget_rng {v : List Int} (h : ∀ n ∈ v, 0 ≤ n ∧ n ≤ 1099511627776) (r : Int) : 0 ≤ vget v r ∧ vget v r ≤ 1099511627776 := by
  unfold vget
  rcases Nat.lt_or_ge r.toNat v.length with hr | hr
  · rw [getD_lt hr]; exact h _ (List.getElem_mem hr)
  · rw [getD_ge hr]; omega
theorem Clean.at_ {c : CtxT} (h : Clean c) (r : Int) : 0 ≤ vget c.1 r ∧ vget c.1 r ≤ 1099511627776 := vget_rng h.rng r
theorem clean_le {a b : CtxT} (ha : Clean a) (hb : Clean b) (h : ∀ d, hasC b d = true → hasC a d = true) (r : Int) (h0 : 0 ≤ r) (h1 : r < 16) : vget b.1 r ≤ vget a.1 r := by
  rcases Int.lt_or_le (vget a.1 r) (vget b.1 r) with g | g
  · exfalso
    have hra := ha.at_ r
    have hrb := hb.at_ r
    have hc : chk (r, vget a.1 r + 1) = 0 := (chk_iff _).2 ⟨h0, h1, by show 1 ≤ vget a.1 r + 1; omega, by show vget a.1 r + 1 ≤ _; omega⟩
    have h2 := h (r, vget a.1 r + 1) ((hasC_iff _ _).2 ⟨hc, .inl (by show vget a.1 r + 1 ≤ vget b.1 r; omega)⟩)
    obtain ⟨_, h3 | h3⟩ := (hasC_iff _ _).1 h2
    · have : vget a.1 r + 1 ≤ vget a.1 r := h3
      omega
    · have := (ha.ok _ h3).2
      have : vget a.1 r + 1 < vget a.1 r + 1 := this
      omega
  · exact g
theorem vget_nat (v : List Int) (i : Nat) (h : i < v.length) : vget v (i : Int) = v[i] := by
  unfold vget; rw [Int.toNat_natCast, getD_lt h]
theorem vget_ext {v u : List Int} (hv : v.length = 16) (hu : u.length = 16) (h : ∀ r : Int, 0 ≤ r → r < 16 → vget v r = vget u r) : v = u := by
  refine List.ext_getElem (by omega) fun i h1 h2 => ?_
  rw [← vget_nat v i h1, ← vget_nat u i h2]
  exact h i (Int.natCast_nonneg _) (by omega)
theorem clean_ext {a b : CtxT} (ha : Clean a) (hb : Clean b) (h : ∀ d, hasC a d = hasC b d) : a = b := by
  have hv : a.1 = b.1 := vget_ext ha.len hb.len fun r h0 h1 => Int.le_antisymm (clean_le hb ha (fun d g => by rw [← h d]; exact g) r h0 h1) (clean_le ha hb (fun d g => by rw [h d]; exact g) r h0 h1)
  have sub : ∀ (x y : CtxT), Clean x → Clean y → x.1 = y.1 → (∀ d, hasC x d = hasC y d) → ∀ d, d ∈ x.2 → d ∈ y.2 := fun x y hx hy e hh d hd => by
    have h1 := hx.ok d hd
    have h2 : hasC y d = true := by rw [← hh d]; exact (hasC_iff _ _).2 ⟨h1.1, .inr hd⟩
    obtain ⟨_, h3 | h3⟩ := (hasC_iff _ _).1 h2
    · rw [← e] at h3; have := h1.2; omega
    · exact h3
  exact Prod.ext hv (inc_unique stoD _ _ ha.inc hb.inc fun d => ⟨sub a b ha hb hv h d, sub b a hb ha hv.symm (fun d => (h d).symm) d⟩)

theorem vget_set {v : List Int} {r x : Int} {s : Int} (h0 : 0 ≤ r) (h1 : r.toNat < v.length) (hs : 0 ≤ s) : vget (v.set r.toNat x) s = if s = r then x else vget v s := by
  unfold vget
  by_cases h : s = r
  · subst h
    rw [if_pos rfl, getD_lt (by rw [List.length_set]; exact h1), List.getElem_set_self]
  · rw [if_neg h]
    simp only [List.getD_eq_getElem?_getD]
    rw [List.getElem?_set_ne (by omega)]
theorem mem_set {v : List Int} {i : Nat} {x n : Int} (h : n ∈ v.set i x) : n = x ∨ n ∈ v := by
  rcases List.mem_or_eq_of_mem_set h with h | h
  · exact .inr h
  · exact .inl h
theorem vget_clamp {v : List Int} (hl : v.length = 16) {r : Int} (h0 : 0 ≤ r) (h1 : r < 16) : vget (v.map clampI) r = clampI (vget v r) := by
  unfold vget
  have h : r.toNat < v.length := by omega
  rw [getD_lt (by rw [List.length_map]; exact h), List.getElem_map, getD_lt h]
theorem clamp_le {n k : Int} (h1 : 1 ≤ k) (h2 : k ≤ 1099511627776) : k ≤ clampI n ↔ k ≤ n := by
  unfold clampI; omega
theorem clamp_rng (n : Int) : 0 ≤ clampI n ∧ clampI n ≤ 1099511627776 := by unfold clampI; omega

structure ClInv (c : CtxT) (p : List (Int × Int)) (o : CtxT) : Prop where
  cl : Clean o
  sub : ∀ d ∈ o.2, d ∈ p
  has : ∀ d, hasC o d = hasC (c.1, p) d
theorem ClInv.start {c : CtxT} (hl : c.1.length = 16) : ClInv c [] (c.1.map clampI, []) where
  cl := ⟨by simpa using hl, fun n hn => by obtain ⟨x, _, rfl⟩ := List.mem_map.1 hn; exact clamp_rng x, List.Pairwise.nil, fun d hd => by simp at hd⟩
  sub d hd := by simp at hd
  has d := Bool.eq_iff_iff.2 (by
    rw [hasC_iff, hasC_iff]
    constructor
    · rintro ⟨h1, h2 | h2⟩
      · have h := (chk_iff d).1 h1
        rw [vget_clamp hl h.1 h.2.1, clamp_le h.2.2.1 h.2.2.2] at h2
        exact ⟨h1, .inl h2⟩
      · simp at h2
    · rintro ⟨h1, h2 | h2⟩
      · have h := (chk_iff d).1 h1
        refine ⟨h1, .inl ?_⟩
        rw [vget_clamp hl h.1 h.2.1, clamp_le h.2.2.1 h.2.2.2]
        exact h2
      · simp at h2)
theorem ClInv.step {c : CtxT} {p : List (Int × Int)} {o : CtxT} {d : Int × Int} (h : ClInv c p o) (hd : ∀ x ∈ p, ltD x d = true) : ClInv c (p ++ [d]) (clStep o d) := by
  unfold clStep
  by_cases h1 : chk d ≠ 0 ∨ vhas o.1 d = true
  · rw [if_pos h1]
    refine ⟨h.cl, fun x hx => List.mem_append_left _ (h.sub x hx), fun x => Bool.eq_iff_iff.2 ?_⟩
    rw [h.has x, hasC_iff, hasC_iff]
    constructor
    · rintro ⟨g1, g2 | g2⟩
      · exact ⟨g1, .inl g2⟩
      · exact ⟨g1, .inr (List.mem_append_left _ g2)⟩
    · rintro ⟨g1, g2 | g2⟩
      · exact ⟨g1, .inl g2⟩
      · rcases List.mem_append.1 g2 with g2 | g2
        · exact ⟨g1, .inr g2⟩
        · obtain rfl : x = d := by simpa using g2
          rcases h1 with h1 | h1
          · exact absurd g1 h1
          · have : hasC o x = true := by unfold hasC; rw [h1]; rfl
            rw [h.has x] at this
            exact (hasC_iff _ _).1 this
  · rw [if_neg h1]
    have c0 : chk d = 0 := Decidable.byContradiction fun g => h1 (.inl g)
    have c1 : vget o.1 d.1 < d.2 := Int.lt_of_not_ge fun g => h1 (.inr ((vhas_iff _ _).2 ⟨c0, g⟩))
    have hc := (chk_iff d).1 c0
    have hlen := h.cl.len
    have hmem : ∀ x, hasC (c.1, p ++ [d]) x = true ↔ hasC (c.1, p) x = true ∨ x = d := fun x => by
      rw [hasC_iff, hasC_iff]
      constructor
      · rintro ⟨g1, g2 | g2⟩
        · exact .inl ⟨g1, .inl g2⟩
        · rcases List.mem_append.1 g2 with g2 | g2
          · exact .inl ⟨g1, .inr g2⟩
          · exact .inr (by simpa using g2)
      · rintro (⟨g1, g2 | g2⟩ | rfl)
        · exact ⟨g1, .inl g2⟩
        · exact ⟨g1, .inr (List.mem_append_left _ g2)⟩
        · exact ⟨c0, .inr (List.mem_append_right _ (by simp))⟩
    by_cases h2 : d.2 = vget o.1 d.1 + 1
    · rw [if_pos h2]
      have hvs : ∀ r, 0 ≤ r → vget (o.1.set d.1.toNat (vget o.1 d.1 + 1)) r = if r = d.1 then vget o.1 d.1 + 1 else vget o.1 r := fun r hr => vget_set hc.1 (by omega) hr
      have hno : ∀ x ∈ o.2, x.1 ≠ d.1 := fun x hx e => by
        have g1 := (h.cl.ok x hx).2
        have g2 := (ltD_iff _ _).1 (hd x (h.sub x hx))
        rw [e] at g1
        omega
      refine ⟨⟨by simpa using hlen, fun n hn => ?_, h.cl.inc, fun x hx => ?_⟩, fun x hx => List.mem_append_left _ (h.sub x hx), fun x => Bool.eq_iff_iff.2 ?_⟩
      · rcases mem_set hn with rfl | hn
        · have := h.cl.at_ d.1; omega
        · exact h.cl.rng n hn
      · obtain ⟨g1, g2⟩ := h.cl.ok x hx
        refine ⟨g1, ?_⟩
        show vget (o.1.set d.1.toNat (vget o.1 d.1 + 1)) x.1 + 1 < x.2
        rw [hvs _ ((chk_iff x).1 g1).1, if_neg (hno x hx)]
        exact g2
      · rw [hmem x, ← h.has x, hasC_iff, hasC_iff]
        constructor
        · rintro ⟨g1, g2 | g2⟩
          · have g2 : x.2 ≤ vget (o.1.set d.1.toNat (vget o.1 d.1 + 1)) x.1 := g2
            rw [hvs _ ((chk_iff x).1 g1).1] at g2
            by_cases e : x.1 = d.1
            · rw [if_pos e] at g2
              by_cases e2 : x.2 = d.2
              · exact .inr (Prod.ext e e2)
              · exact .inl ⟨g1, .inl (by rw [e]; omega)⟩
            · rw [if_neg e] at g2; exact .inl ⟨g1, .inl g2⟩
          · exact .inl ⟨g1, .inr g2⟩
        · rintro (⟨g1, g2 | g2⟩ | rfl)
          · refine ⟨g1, .inl ?_⟩
            show x.2 ≤ vget (o.1.set d.1.toNat (vget o.1 d.1 + 1)) x.1
            rw [hvs _ ((chk_iff x).1 g1).1]
            by_cases e : x.1 = d.1
            · rw [if_pos e]; rw [e] at g2; omega
            · rw [if_neg e]; exact g2
          · exact ⟨g1, .inr g2⟩
          · refine ⟨c0, .inl ?_⟩
            show x.2 ≤ vget (o.1.set x.1.toNat (vget o.1 x.1 + 1)) x.1
            rw [hvs _ hc.1, if_pos rfl]; omega
    · rw [if_neg h2]
      refine ⟨⟨hlen, h.cl.rng, ?_, fun x hx => ?_⟩, fun x hx => ?_, fun x => Bool.eq_iff_iff.2 ?_⟩
      · refine List.pairwise_append.2 ⟨h.cl.inc, List.pairwise_singleton _ _, fun x hx y hy => ?_⟩
        obtain rfl : y = d := by simpa using hy
        exact hd x (h.sub x hx)
      · rcases List.mem_append.1 hx with hx | hx
        · exact h.cl.ok x hx
        · obtain rfl : x = d := by simpa using hx
          exact ⟨c0, by show vget o.1 x.1 + 1 < x.2; omega⟩
      · rcases List.mem_append.1 hx with hx | hx
        · exact List.mem_append_left _ (h.sub x hx)
        · exact List.mem_append_right _ hx
      · rw [hmem x, ← h.has x, hasC_iff, hasC_iff]
        constructor
        · rintro ⟨g1, g2 | g2⟩
          · exact .inl ⟨g1, .inl g2⟩
          · rcases List.mem_append.1 g2 with g2 | g2
            · exact .inl ⟨g1, .inr g2⟩
            · exact .inr (by simpa using g2)
        · rintro (⟨g1, g2 | g2⟩ | rfl)
          · exact ⟨g1, .inl g2⟩
          · exact ⟨g1, .inr (List.mem_append_left _ g2)⟩
          · exact ⟨c0, .inr (List.mem_append_right _ (by simp))⟩
theorem clInv_take {c : CtxT} (hl : c.1.length = 16) : ∀ i, i ≤ (sortK ltD c.2).length → ClInv c ((sortK ltD c.2).take i) (((sortK ltD c.2).take i).foldl clStep (c.1.map clampI, []))
  | 0, _ => ClInv.start hl
  | i + 1, h => by
    have hi : i < (sortK ltD c.2).length := by omega
    have e : (sortK ltD c.2).take (i + 1) = (sortK ltD c.2).take i ++ [(sortK ltD c.2)[i]] := (List.take_append_getElem hi).symm
    rw [e, List.foldl_append]
    refine ClInv.step (clInv_take hl i (by omega)) fun x hx => ?_
    obtain ⟨j, hj, rfl⟩ := List.getElem_of_mem hx
    rw [List.getElem_take]
    have hj2 : j < i := by rw [List.length_take] at hj; omega
    exact List.pairwise_iff_getElem.1 (sortK_facts stoD c.2).1 j i (by omega) hi hj2
theorem clInv_F {c : CtxT} (hl : c.1.length = 16) : ClInv c (sortK ltD c.2) (cleanF c) := by
  have h := clInv_take hl _ (Nat.le_refl _)
  rw [List.take_length] at h
  exact h
theorem clean_F {c : CtxT} (hl : c.1.length = 16) : Clean (cleanF c) := (clInv_F hl).cl
theorem has_F {c : CtxT} (hl : c.1.length = 16) (d : Int × Int) : hasC (cleanF c) d = hasC c d := by
  rw [(clInv_F hl).has d]
  refine Bool.eq_iff_iff.2 ?_
  rw [hasC_iff, hasC_iff]
  simp only [(sortK_facts stoD c.2).2 d]
theorem clean_is {c o : CtxT} (hl : c.1.length = 16) (h : Clean o) (hh : ∀ d, hasC o d = hasC c d) : o = cleanF c := clean_ext h (clean_F hl) fun d => by rw [hh d, has_F hl]

/-- More updates, and the updates of both. -/
def addF (c : CtxT) (l : List (Int × Int)) : CtxT := cleanF (c.1, c.2 ++ l)
def vmax (a b : List Int) : List Int := List.zipWith max a b
def joinF (a b : CtxT) : CtxT := addF (vmax (cleanF a).1 (cleanF b).1, (cleanF a).2) (cleanF b).2
theorem vmax_len {a b : List Int} (ha : a.length = 16) (hb : b.length = 16) : (vmax a b).length = 16 := by unfold vmax; rw [List.length_zipWith]; omega
theorem clean_add {c : CtxT} (hl : c.1.length = 16) (l : List (Int × Int)) : Clean (addF c l) := clean_F (c := (c.1, c.2 ++ l)) hl
theorem clean_join {a b : CtxT} (ha : a.1.length = 16) (hb : b.1.length = 16) : Clean (joinF a b) := clean_add (vmax_len (clean_F ha).len (clean_F hb).len) _
end Go.Proofs.Ytmhkalalcmkpbaa

namespace Go.Proofs.Ytmhkalalcmkpbaa
set_option linter.unusedVariables false
set_option linter.unusedSimpArgs false

def rangeI (lo hi : Int) : List Int := (List.range (hi + 1 - lo).toNat).map fun (k : Nat) => lo + (k : Int)
theorem rangeI_nil {lo hi : Int} (h : hi < lo) : rangeI lo hi = [] := by
  unfold rangeI; rw [show (hi + 1 - lo).toNat = 0 by omega]; rfl
theorem rangeI_snoc {lo hi : Int} (h : lo ≤ hi + 1) : rangeI lo (hi + 1) = rangeI lo hi ++ [hi + 1] := by
  unfold rangeI
  rw [show (hi + 1 + 1 - lo).toNat = (hi + 1 - lo).toNat + 1 by omega, List.range_succ, List.map_append]
  simp only [List.map_cons, List.map_nil]
  rw [show lo + ((hi + 1 - lo).toNat : Int) = hi + 1 by omega]
def atRep (i : Nat) (l : List (Int × Int)) : List (Int × Int) := l.filter fun d => decide (d.1 = (i : Int))
/-- The updates of replica i that the second one may have, and the first one not. -/
def cands (a b : CtxT) (i : Nat) : List (Int × Int) := (rangeI (vget a.1 i + 1) (vget b.1 i)).map (fun n => ((i : Int), n)) ++ atRep i b.2
def allC (a b : CtxT) (k : Nat) : List (Int × Int) := (List.range k).flatMap (cands a b)
def lackT (a : CtxT) (p : List (Int × Int)) : List (Int × Int) := (p.filter fun d => !hasC a d).take 4096
def missF (a b : CtxT) : List (Int × Int) := lackT (cleanF a) (allC (cleanF a) (cleanF b) 16)
theorem allC_succ (a b : CtxT) (k : Nat) : allC a b (k + 1) = allC a b k ++ cands a b k := by unfold allC; rw [List.range_succ, List.flatMap_append]; simp
theorem lackT_len (a : CtxT) (p : List (Int × Int)) : (lackT a p).length ≤ 4096 := by unfold lackT; rw [List.length_take]; omega
theorem lackT_yes {a : CtxT} {p : List (Int × Int)} {d : Int × Int} (h : hasC a d = false) (hl : (lackT a p).length < 4096) : lackT a (p ++ [d]) = lackT a p ++ [d] := by
  unfold lackT at hl ⊢
  rw [List.length_take] at hl
  rw [List.filter_append, List.filter_cons, h]
  simp only [Bool.not_false, if_true, List.filter_nil]
  rw [List.take_of_length_le (by rw [List.length_append]; simp; omega), List.take_of_length_le (by omega)]
theorem lackT_no {a : CtxT} {p : List (Int × Int)} {d : Int × Int} (h : hasC a d = true) : lackT a (p ++ [d]) = lackT a p := by
  unfold lackT
  rw [List.filter_append, List.filter_cons, h]
  simp
theorem lackT_full {a : CtxT} {p : List (Int × Int)} (hl : ¬ (lackT a p).length < 4096) (q : List (Int × Int)) : lackT a (p ++ q) = lackT a p := by
  unfold lackT at hl ⊢
  rw [List.length_take] at hl
  rw [List.filter_append, List.take_append_of_le_length (by omega)]
def pushL (a : CtxT) (o : List (Int × Int)) (d : Int × Int) : List (Int × Int) := if hasC a d = false ∧ o.length < 4096 then o ++ [d] else o
theorem lackT_push (a : CtxT) (p : List (Int × Int)) (d : Int × Int) : lackT a (p ++ [d]) = pushL a (lackT a p) d := by
  unfold pushL
  by_cases h : hasC a d = false ∧ (lackT a p).length < 4096
  · rw [if_pos h, lackT_yes h.1 h.2]
  · rw [if_neg h]
    cases hh : hasC a d with
    | true => exact lackT_no hh
    | false => exact lackT_full (fun g => h ⟨hh, g⟩) _
theorem atRep_take {i : Nat} {l : List (Int × Int)} {k : Nat} {d : Int × Int} (h : l[k]? = some d) : atRep i (l.take (k + 1)) = if d.1 = (i : Int) then atRep i (l.take k) ++ [d] else atRep i (l.take k) := by
  obtain ⟨hk, rfl⟩ := List.getElem?_eq_some_iff.1 h
  unfold atRep
  rw [← List.take_append_getElem hk, List.filter_append]
  by_cases e : l[k].1 = (i : Int)
  · rw [if_pos e]; simp [e]
  · rw [if_neg e]; simp [e]
def cmpC (lacks has : Bool) : Int := if (lacks && has) = true then 2 else if lacks = true then -1 else if has = true then 1 else 0
def compareF (a b : CtxT) : Int := cmpC (decide (0 < (missF a b).length)) (decide (0 < (missF b a).length))
end Go.Proofs.Ytmhkalalcmkpbaa

namespace Go.Proofs.Ytmhkalalcmkpbaa
set_option linter.unusedVariables false
set_option linter.unusedSimpArgs false

def vOk (n : Int) : Bool := decide (0 ≤ n) && decide (n ≤ 1099511627776)
def vE (v : List Int) : Int := if v.all vOk = true then 0 else 2
def ctxE (c : CtxT) : Int := if vE c.1 ≠ 0 then vE c.1 else if cleanF c = c then 0 else 5
def vputS (v : List Int) : ByteArray := if vE v ≠ 0 then ⟨#[]⟩ else cat (v.map numS)
def cputE (c : CtxT) : Int := if ctxE c ≠ 0 then ctxE c else if 4096 < c.2.length then 3 else if 65536 < (putS c.2).size then 3 else 0
def cputS (c : CtxT) : ByteArray := if cputE c ≠ 0 then ⟨#[]⟩ else cat (c.1.map numS) ++ txS (putS c.2)
def rdV : Nat → ByteArray × Int → List Int × (ByteArray × Int)
  | 0, st => ([], st)
  | n + 1, st => ((rdV n st).1 ++ [((rdN (rdV n st).2).1 : Int)], (rdN (rdV n st).2).2)
def zeroV : List Int := List.replicate 16 0
def cAt (s : ByteArray) : ByteArray × (ByteArray × Int) := rdT (rdV 16 (s, 0)).2
def creadD (s : ByteArray) : CtxT := ((rdV 16 (s, 0)).1, (readD (cAt s).1).1)
def creadE (s : ByteArray) : Int := if doneE (cAt s).2 ≠ 0 then doneE (cAt s).2 else if vE (rdV 16 (s, 0)).1 ≠ 0 then vE (rdV 16 (s, 0)).1 else if (readD (cAt s).1).2 ≠ 0 then (readD (cAt s).1).2 else ctxE (creadD s)
def zeroC : CtxT := (zeroV, [])
def creadT (s : ByteArray) : CtxT := if creadE s ≠ 0 then zeroC else creadD s

theorem rdV_len : ∀ (n : Nat) (st : ByteArray × Int), (rdV n st).1.length = n
  | 0, st => rfl
  | n + 1, st => by show ((rdV n st).1 ++ [_]).length = n + 1; rw [List.length_append, rdV_len n st]; rfl
theorem rdV_size : ∀ (n : Nat) (st : ByteArray × Int), (rdV n st).2.1.size ≤ st.1.size
  | 0, st => Nat.le_refl _
  | n + 1, st => Nat.le_trans (rdN_size (rdV n st).2) (rdV_size n st)
theorem vE_zero {v : List Int} (h : vE v = 0) : ∀ n ∈ v, 0 ≤ n ∧ n ≤ 1099511627776 := by
  unfold vE at h
  by_cases g : v.all vOk = true
  · intro n hn
    have := List.all_eq_true.1 g n hn
    unfold vOk at this
    simpa using this
  · rw [if_neg g] at h; cases h
theorem vE_mk {v : List Int} (h : ∀ n ∈ v, 0 ≤ n ∧ n ≤ 1099511627776) : vE v = 0 := by
  unfold vE
  rw [if_pos (List.all_eq_true.2 fun n hn => by unfold vOk; simpa using h n hn)]
theorem ctxE_zero {c : CtxT} (h : ctxE c = 0) : (∀ n ∈ c.1, 0 ≤ n ∧ n ≤ 1099511627776) ∧ cleanF c = c := by
  unfold ctxE at h
  obtain ⟨h1, h2⟩ := ifE h
  refine ⟨vE_zero h1, ?_⟩
  by_cases g : cleanF c = c
  · exact g
  · rw [if_neg g] at h2; cases h2
theorem clean_may {c : CtxT} (h : Clean c) : mayG chk ltD c.2 = 0 :=
  may_ok (fun j y hy => (h.ok y (List.mem_of_getElem? hy)).1) fun j x y hx hy => by
    obtain ⟨h1, rfl⟩ := List.getElem?_eq_some_iff.1 hx
    obtain ⟨h2, rfl⟩ := List.getElem?_eq_some_iff.1 hy
    exact List.pairwise_iff_getElem.1 h.inc j (j + 1) h1 h2 (by omega)
theorem cputE_zero {c : CtxT} (hl : c.1.length = 16) (h : cputE c = 0) : ctxE c = 0 ∧ Clean c ∧ putE c.2 = 0 ∧ (putS c.2).size ≤ 65536 := by
  unfold cputE at h
  obtain ⟨h1, h⟩ := ifE h
  obtain ⟨h2, h⟩ := ifP (by decide) h
  obtain ⟨h3, _⟩ := ifP (by decide) h
  have hc : Clean c := by have := clean_F hl; rw [(ctxE_zero h1).2] at this; exact this
  refine ⟨h1, hc, ?_, by omega⟩
  unfold putE; rw [if_neg h2, mayE_G, clean_may hc]
theorem cat_nums (v : List Int) (h : ∀ n ∈ v, 0 ≤ n ∧ n ≤ 1099511627776) : (cat (v.map numS)).data.toList = v.flatMap fun n => bytesN n.toNat := by
  rw [cat_data, List.flatMap_map]
  induction v with
  | nil => rfl
  | cons n v ih =>
    have := h n (by simp)
    rw [List.flatMap_cons, List.flatMap_cons, ih fun m hm => h m (by simp [hm]), numS_data _ (by omega) (by omega)]
theorem cputS_data {c : CtxT} (hl : c.1.length = 16) (h : cputE c = 0) : (cputS c).data.toList = (c.1.flatMap fun n => bytesN n.toNat) ++ (txB (putS c.2) ++ []) := by
  obtain ⟨h1, h2, h3, h4⟩ := cputE_zero hl h
  unfold cputS
  rw [if_neg (by simpa using h), app_data, cat_nums _ h2.rng, txS_data _ h4, List.append_nil]
theorem rdV_put {v : List Int} (h : ∀ n ∈ v, 0 ≤ n ∧ n ≤ 1099511627776) {s : ByteArray} {r : List UInt8} (hs : s.data.toList = (v.flatMap fun n => bytesN n.toNat) ++ r) :
    ∀ k, k ≤ v.length → ∃ s', rdV k (s, 0) = (v.take k, (s', 0)) ∧ s'.data.toList = ((v.drop k).flatMap fun n => bytesN n.toNat) ++ r
  | 0, _ => ⟨s, by simp [rdV], by simpa using hs⟩
  | k + 1, hk => by
    obtain ⟨s1, e1, d1⟩ := rdV_put h hs k (by omega)
    have hk2 : k < v.length := by omega
    rw [List.drop_eq_getElem_cons hk2, List.flatMap_cons, List.append_assoc] at d1
    have hb := h v[k] (List.getElem_mem hk2)
    obtain ⟨s2, e2, d2⟩ := rdN_put s1 _ _ (by omega) d1
    refine ⟨s2, ?_, d2⟩
    show ((rdV k (s, 0)).1 ++ [((rdN (rdV k (s, 0)).2).1 : Int)], (rdN (rdV k (s, 0)).2).2) = _
    rw [e1, e2, ← List.take_append_getElem hk2, Int.toNat_of_nonneg hb.1]
theorem cread_put {c : CtxT} (hl : c.1.length = 16) (h : cputE c = 0) : creadE (cputS c) = 0 ∧ creadT (cputS c) = c := by
  have hd := cputS_data hl h
  obtain ⟨h1, h2, h3, h4⟩ := cputE_zero hl h
  generalize cputS c = s at hd ⊢
  obtain ⟨s1, e1, d1⟩ := rdV_put h2.rng hd 16 (by omega)
  rw [List.take_of_length_le (by omega)] at e1
  rw [List.drop_eq_nil_of_le (by omega), List.flatMap_nil, List.nil_append] at d1
  obtain ⟨s2, e2, d2⟩ := rdT_put s1 _ _ h4 d1
  have ea : cAt s = (putS c.2, (s2, 0)) := by unfold cAt; rw [e1, e2]
  have hs : s2.size = 0 := by rw [← len_data, d2]; rfl
  have hdn : doneE (s2, 0) = 0 := by unfold doneE; rw [if_neg (by simp), if_pos hs]
  have p3 := readD_put _ h3
  have hD : creadD s = c := by unfold creadD; rw [ea, e1]; simp only [p3]
  have hE : creadE s = 0 := by
    unfold creadE
    rw [ea, e1, hD]
    exact ifE_mk hdn (ifE_mk (vE_mk h2.rng) (ifE_mk (by rw [p3]) h1))
  refine ⟨hE, ?_⟩
  unfold creadT
  rw [if_neg (by simpa using hE), hD]
end Go.Proofs.Ytmhkalalcmkpbaa
