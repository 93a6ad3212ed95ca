/-
  Cau Cau2 Cau3 Vec BTV Vec1 Vec2
-/
import Derived.Test.YtmhkalalcmkpbaaZBT2
import Derived.Test.YtmhkalalcmkpbaaZC9
import Derived.Test.YtmhkalalcmkpbaaZDel
import Derived.Test.YtmhkalalcmkpbaaZDel1
import Derived.Test.YtmhkalalcmkpbaaZDotRSort
import Derived.Test.YtmhkalalcmkpbaaZDw
import Derived.Test.YtmhkalalcmkpbaaZFrb
import Derived.ChangeKeysEq
namespace Go.Proofs.Ytmhkalalcmkpbaa
set_option linter.unusedVariables false
set_option linter.unusedSimpArgs false

abbrev CtxT := List Int × List (Int × Int)
def vget (v : List Int) (r : Int) : Int := v.getD r.toNat 0
def vhas (v : List Int) (d : Int × Int) : Bool := decide (chk d = 0) && decide (d.2 ≤ vget v d.1)
def hasC (c : CtxT) (d : Int × Int) : Bool := vhas c.1 d || (decide (chk d = 0) && decide (d ∈ c.2))
def clampI (n : Int) : Int := max 0 (min n 1099511627776)
def clStep (o : CtxT) (d : Int × Int) : CtxT := if chk d ≠ 0 ∨ vhas o.1 d = true then o else if d.2 = vget o.1 d.1 + 1 then (o.1.set d.1.toNat (vget o.1 d.1 + 1), o.2) else (o.1, o.2 ++ [d])
def cleanF (c : CtxT) : CtxT := (sortK ltD c.2).foldl clStep (c.1.map clampI, [])

theorem chk_iff (d : Int × Int) : chk d = 0 ↔ 0 ≤ d.1 ∧ d.1 < 16 ∧ 1 ≤ d.2 ∧ d.2 ≤ 1099511627776 := by
  unfold chk
  by_cases h : d.1 < 0 ∨ 16 ≤ d.1 ∨ d.2 < 1 ∨ 1099511627776 < d.2
  · rw [if_pos h]; simp only [show ((2 : Int) = 0) = False by simp, false_iff]; omega
  · rw [if_neg h]; simp only [true_iff]; omega
theorem vhas_iff (v : List Int) (d : Int × Int) : vhas v d = true ↔ chk d = 0 ∧ d.2 ≤ vget v d.1 := by unfold vhas; simp
theorem hasC_iff (c : CtxT) (d : Int × Int) : hasC c d = true ↔ chk d = 0 ∧ (d.2 ≤ vget c.1 d.1 ∨ d ∈ c.2) := by
  unfold hasC
  simp only [Bool.or_eq_true, vhas_iff, Bool.and_eq_true, decide_eq_true_eq]
  constructor
  · rintro (⟨h1, h2⟩ | ⟨h1, h2⟩)
    · exact ⟨h1, .inl h2⟩
    · exact ⟨h1, .inr h2⟩
  · rintro ⟨h1, h2 | h2⟩
    · exact .inl ⟨h1, h2⟩
    · exact .inr ⟨h1, h2⟩
theorem ltD_iff (a b : Int × Int) : ltD a b = true ↔ a.1 < b.1 ∨ (a.1 = b.1 ∧ a.2 < b.2) := by unfold ltD; simp

/-- A context whose vector is as great as can be, and whose cloud rises beyond it. -/
structure Clean (c : CtxT) : Prop where
  len : c.1.length = 16
  rng : ∀ n ∈ c.1, 0 ≤ n ∧ n ≤ 1099511627776
  inc : Inc ltD c.2
  ok : ∀ d ∈ c.2, chk d = 0 ∧ vget c.1 d.1 + 1 < d.2
theorem getD_lt {v : List Int} {i : Nat} (h : i < v.length) : v.getD i 0 = v[i] := by simp [List.getD, h]
theorem getD_ge {v : List Int} {i : Nat} (h : v.length ≤ i) : v.getD i 0 = 0 := by simp [List.getD, h]
theorem vget_rng {v : List Int} (h : ∀ n ∈ v, 0 ≤ n ∧ n ≤ 1099511627776) (r : Int) : 0 ≤ vget v r ∧ vget v r ≤ 1099511627776 := by
  unfold vget
  rcases Nat.lt_or_ge r.toNat v.length with hr | hr
  · rw [getD_lt hr]; exact h _ (List.getElem_mem hr)
  · rw [getD_ge hr]; omega
theorem Clean.at_ {c : CtxT} (h : Clean c) (r : Int) : 0 ≤ vget c.1 r ∧ vget c.1 r ≤ 1099511627776 := vget_rng h.rng r
theorem clean_le {a b : CtxT} (ha : Clean a) (hb : Clean b) (h : ∀ d, hasC b d = true → hasC a d = true) (r : Int) (h0 : 0 ≤ r) (h1 : r < 16) : vget b.1 r ≤ vget a.1 r := by
  rcases Int.lt_or_le (vget a.1 r) (vget b.1 r) with g | g
  · exfalso
    have hra := ha.at_ r
    have hrb := hb.at_ r
    have hc : chk (r, vget a.1 r + 1) = 0 := (chk_iff _).2 ⟨h0, h1, by show 1 ≤ vget a.1 r + 1; omega, by show vget a.1 r + 1 ≤ _; omega⟩
    have h2 := h (r, vget a.1 r + 1) ((hasC_iff _ _).2 ⟨hc, .inl (by show vget a.1 r + 1 ≤ vget b.1 r; omega)⟩)
    obtain ⟨_, h3 | h3⟩ := (hasC_iff _ _).1 h2
    · have : vget a.1 r + 1 ≤ vget a.1 r := h3
      omega
    · have := (ha.ok _ h3).2
      have : vget a.1 r + 1 < vget a.1 r + 1 := this
      omega
  · exact g
theorem vget_nat (v : List Int) (i : Nat) (h : i < v.length) : vget v (i : Int) = v[i] := by
  unfold vget; rw [Int.toNat_natCast, getD_lt h]
theorem vget_ext {v u : List Int} (hv : v.length = 16) (hu : u.length = 16) (h : ∀ r : Int, 0 ≤ r → r < 16 → vget v r = vget u r) : v = u := by
  refine List.ext_getElem (by omega) fun i h1 h2 => ?_
  rw [← vget_nat v i h1, ← vget_nat u i h2]
  exact h i (Int.natCast_nonneg _) (by omega)
theorem clean_ext {a b : CtxT} (ha : Clean a) (hb : Clean b) (h : ∀ d, hasC a d = hasC b d) : a = b := by
  have hv : a.1 = b.1 := vget_ext ha.len hb.len fun r h0 h1 => Int.le_antisymm (clean_le hb ha (fun d g => by rw [← h d]; exact g) r h0 h1) (clean_le ha hb (fun d g => by rw [h d]; exact g) r h0 h1)
  have sub : ∀ (x y : CtxT), Clean x → Clean y → x.1 = y.1 → (∀ d, hasC x d = hasC y d) → ∀ d, d ∈ x.2 → d ∈ y.2 := fun x y hx hy e hh d hd => by
    have h1 := hx.ok d hd
    have h2 : hasC y d = true := by rw [← hh d]; exact (hasC_iff _ _).2 ⟨h1.1, .inr hd⟩
    obtain ⟨_, h3 | h3⟩ := (hasC_iff _ _).1 h2
    · rw [← e] at h3; have := h1.2; omega
    · exact h3
  exact Prod.ext hv (inc_unique stoD _ _ ha.inc hb.inc fun d => ⟨sub a b ha hb hv h d, sub b a hb ha hv.symm (fun d => (h d).symm) d⟩)

theorem vget_set {v : List Int} {r x : Int} {s : Int} (h0 : 0 ≤ r) (h1 : r.toNat < v.length) (hs : 0 ≤ s) : vget (v.set r.toNat x) s = if s = r then x else vget v s := by
  unfold vget
  by_cases h : s = r
  · subst h
    rw [if_pos rfl, getD_lt (by rw [List.length_set]; exact h1), List.getElem_set_self]
  · rw [if_neg h]
    simp only [List.getD_eq_getElem?_getD]
    rw [List.getElem?_set_ne (by omega)]
theorem mem_set {v : List Int} {i : Nat} {x n : Int} (h : n ∈ v.set i x) : n = x ∨ n ∈ v := by
  rcases List.mem_or_eq_of_mem_set h with h | h
  · exact .inr h
  · exact .inl h
theorem vget_clamp {v : List Int} (hl : v.length = 16) {r : Int} (h0 : 0 ≤ r) (h1 : r < 16) : vget (v.map clampI) r = clampI (vget v r) := by
  unfold vget
  have h : r.toNat < v.length := by omega
  rw [getD_lt (by rw [List.length_map]; exact h), List.getElem_map, getD_lt h]
theorem clamp_le {n k : Int} (h1 : 1 ≤ k) (h2 : k ≤ 1099511627776) : k ≤ clampI n ↔ k ≤ n := by
  unfold clampI; omega
theorem clamp_rng (n : Int) : 0 ≤ clampI n ∧ clampI n ≤ 1099511627776 := by unfold clampI; omega

structure ClInv (c : CtxT) (p : List (Int × Int)) (o : CtxT) : Prop where
  cl : Clean o
  sub : ∀ d ∈ o.2, d ∈ p
  has : ∀ d, hasC o d = hasC (c.1, p) d
theorem ClInv.start {c : CtxT} (hl : c.1.length = 16) : ClInv c [] (c.1.map clampI, []) where
  cl := ⟨by simpa using hl, fun n hn => by obtain ⟨x, _, rfl⟩ := List.mem_map.1 hn; exact clamp_rng x, List.Pairwise.nil, fun d hd => by simp at hd⟩
  sub d hd := by simp at hd
  has d := Bool.eq_iff_iff.2 (by
    rw [hasC_iff, hasC_iff]
    constructor
    · rintro ⟨h1, h2 | h2⟩
      · have h := (chk_iff d).1 h1
        rw [vget_clamp hl h.1 h.2.1, clamp_le h.2.2.1 h.2.2.2] at h2
        exact ⟨h1, .inl h2⟩
      · simp at h2
    · rintro ⟨h1, h2 | h2⟩
      · have h := (chk_iff d).1 h1
        refine ⟨h1, .inl ?_⟩
        rw [vget_clamp hl h.1 h.2.1, clamp_le h.2.2.1 h.2.2.2]
        exact h2
      · simp at h2)
theorem ClInv.step {c : CtxT} {p : List (Int × Int)} {o : CtxT} {d : Int × Int} (h : ClInv c p o) (hd : ∀ x ∈ p, ltD x d = true) : ClInv c (p ++ [d]) (clStep o d) := by
  unfold clStep
  by_cases h1 : chk d ≠ 0 ∨ vhas o.1 d = true
  · rw [if_pos h1]
    refine ⟨h.cl, fun x hx => List.mem_append_left _ (h.sub x hx), fun x => Bool.eq_iff_iff.2 ?_⟩
    rw [h.has x, hasC_iff, hasC_iff]
    constructor
    · rintro ⟨g1, g2 | g2⟩
      · exact ⟨g1, .inl g2⟩
      · exact ⟨g1, .inr (List.mem_append_left _ g2)⟩
    · rintro ⟨g1, g2 | g2⟩
      · exact ⟨g1, .inl g2⟩
      · rcases List.mem_append.1 g2 with g2 | g2
        · exact ⟨g1, .inr g2⟩
        · obtain rfl : x = d := by simpa using g2
          rcases h1 with h1 | h1
          · exact absurd g1 h1
          · have : hasC o x = true := by unfold hasC; rw [h1]; rfl
            rw [h.has x] at this
            exact (hasC_iff _ _).1 this
  · rw [if_neg h1]
    have c0 : chk d = 0 := Decidable.byContradiction fun g => h1 (.inl g)
    have c1 : vget o.1 d.1 < d.2 := Int.lt_of_not_ge fun g => h1 (.inr ((vhas_iff _ _).2 ⟨c0, g⟩))
    have hc := (chk_iff d).1 c0
    have hlen := h.cl.len
    have hmem : ∀ x, hasC (c.1, p ++ [d]) x = true ↔ hasC (c.1, p) x = true ∨ x = d := fun x => by
      rw [hasC_iff, hasC_iff]
      constructor
      · rintro ⟨g1, g2 | g2⟩
        · exact .inl ⟨g1, .inl g2⟩
        · rcases List.mem_append.1 g2 with g2 | g2
          · exact .inl ⟨g1, .inr g2⟩
          · exact .inr (by simpa using g2)
      · rintro (⟨g1, g2 | g2⟩ | rfl)
        · exact ⟨g1, .inl g2⟩
        · exact ⟨g1, .inr (List.mem_append_left _ g2)⟩
        · exact ⟨c0, .inr (List.mem_append_right _ (by simp))⟩
    by_cases h2 : d.2 = vget o.1 d.1 + 1
    · rw [if_pos h2]
      have hvs : ∀ r, 0 ≤ r → vget (o.1.set d.1.toNat (vget o.1 d.1 + 1)) r = if r = d.1 then vget o.1 d.1 + 1 else vget o.1 r := fun r hr => vget_set hc.1 (by omega) hr
      have hno : ∀ x ∈ o.2, x.1 ≠ d.1 := fun x hx e => by
        have g1 := (h.cl.ok x hx).2
        have g2 := (ltD_iff _ _).1 (hd x (h.sub x hx))
        rw [e] at g1
        omega
      refine ⟨⟨by simpa using hlen, fun n hn => ?_, h.cl.inc, fun x hx => ?_⟩, fun x hx => List.mem_append_left _ (h.sub x hx), fun x => Bool.eq_iff_iff.2 ?_⟩
      · rcases mem_set hn with rfl | hn
        · have := h.cl.at_ d.1; omega
        · exact h.cl.rng n hn
      · obtain ⟨g1, g2⟩ := h.cl.ok x hx
        refine ⟨g1, ?_⟩
        show vget (o.1.set d.1.toNat (vget o.1 d.1 + 1)) x.1 + 1 < x.2
        rw [hvs _ ((chk_iff x).1 g1).1, if_neg (hno x hx)]
        exact g2
      · rw [hmem x, ← h.has x, hasC_iff, hasC_iff]
        constructor
        · rintro ⟨g1, g2 | g2⟩
          · have g2 : x.2 ≤ vget (o.1.set d.1.toNat (vget o.1 d.1 + 1)) x.1 := g2
            rw [hvs _ ((chk_iff x).1 g1).1] at g2
            by_cases e : x.1 = d.1
            · rw [if_pos e] at g2
              by_cases e2 : x.2 = d.2
              · exact .inr (Prod.ext e e2)
              · exact .inl ⟨g1, .inl (by rw [e]; omega)⟩
            · rw [if_neg e] at g2; exact .inl ⟨g1, .inl g2⟩
          · exact .inl ⟨g1, .inr g2⟩
        · rintro (⟨g1, g2 | g2⟩ | rfl)
          · refine ⟨g1, .inl ?_⟩
            show x.2 ≤ vget (o.1.set d.1.toNat (vget o.1 d.1 + 1)) x.1
            rw [hvs _ ((chk_iff x).1 g1).1]
            by_cases e : x.1 = d.1
            · rw [if_pos e]; rw [e] at g2; omega
            · rw [if_neg e]; exact g2
          · exact ⟨g1, .inr g2⟩
          · refine ⟨c0, .inl ?_⟩
            show x.2 ≤ vget (o.1.set x.1.toNat (vget o.1 x.1 + 1)) x.1
            rw [hvs _ hc.1, if_pos rfl]; omega
    · rw [if_neg h2]
      refine ⟨⟨hlen, h.cl.rng, ?_, fun x hx => ?_⟩, fun x hx => ?_, fun x => Bool.eq_iff_iff.2 ?_⟩
      · refine List.pairwise_append.2 ⟨h.cl.inc, List.pairwise_singleton _ _, fun x hx y hy => ?_⟩
        obtain rfl : y = d := by simpa using hy
        exact hd x (h.sub x hx)
      · rcases List.mem_append.1 hx with hx | hx
        · exact h.cl.ok x hx
        · obtain rfl : x = d := by simpa using hx
          exact ⟨c0, by show vget o.1 x.1 + 1 < x.2; omega⟩
      · rcases List.mem_append.1 hx with hx | hx
        · exact List.mem_append_left _ (h.sub x hx)
        · exact List.mem_append_right _ hx
      · rw [hmem x, ← h.has x, hasC_iff, hasC_iff]
        constructor
        · rintro ⟨g1, g2 | g2⟩
          · exact .inl ⟨g1, .inl g2⟩
          · rcases List.mem_append.1 g2 with g2 | g2
            · exact .inl ⟨g1, .inr g2⟩
            · exact .inr (by simpa using g2)
        · rintro (⟨g1, g2 | g2⟩ | rfl)
          · exact ⟨g1, .inl g2⟩
          · exact ⟨g1, .inr (List.mem_append_left _ g2)⟩
          · exact ⟨c0, .inr (List.mem_append_right _ (by simp))⟩
theorem clInv_take {c : CtxT} (hl : c.1.length = 16) : ∀ i, i ≤ (sortK ltD c.2).length → ClInv c ((sortK ltD c.2).take i) (((sortK ltD c.2).take i).foldl clStep (c.1.map clampI, []))
  | 0, _ => ClInv.start hl
  | i + 1, h => by
    have hi : i < (sortK ltD c.2).length := by omega
    have e : (sortK ltD c.2).take (i + 1) = (sortK ltD c.2).take i ++ [(sortK ltD c.2)[i]] := (List.take_append_getElem hi).symm
    rw [e, List.foldl_append]
    refine ClInv.step (clInv_take hl i (by omega)) fun x hx => ?_
    obtain ⟨j, hj, rfl⟩ := List.getElem_of_mem hx
    rw [List.getElem_take]
    have hj2 : j < i := by rw [List.length_take] at hj; omega
    exact List.pairwise_iff_getElem.1 (sortK_facts stoD c.2).1 j i (by omega) hi hj2
theorem clInv_F {c : CtxT} (hl : c.1.length = 16) : ClInv c (sortK ltD c.2) (cleanF c) := by
  have h := clInv_take hl _ (Nat.le_refl _)
  rw [List.take_length] at h
  exact h
theorem clean_F {c : CtxT} (hl : c.1.length = 16) : Clean (cleanF c) := (clInv_F hl).cl
theorem has_F {c : CtxT} (hl : c.1.length = 16) (d : Int × Int) : hasC (cleanF c) d = hasC c d := by
  rw [(clInv_F hl).has d]
  refine Bool.eq_iff_iff.2 ?_
  rw [hasC_iff, hasC_iff]
  simp only [(sortK_facts stoD c.2).2 d]
theorem clean_id {c : CtxT} (h : Clean c) : cleanF c = c := clean_ext (clean_F h.len) h (has_F h.len)
theorem clean_is {c o : CtxT} (hl : c.1.length = 16) (h : Clean o) (hh : ∀ d, hasC o d = hasC c d) : o = cleanF c := clean_ext h (clean_F hl) fun d => by rw [hh d, has_F hl]

/-- More updates, and the updates of both. -/
def addF (c : CtxT) (l : List (Int × Int)) : CtxT := cleanF (c.1, c.2 ++ l)
def vmax (a b : List Int) : List Int := List.zipWith max a b
def joinF (a b : CtxT) : CtxT := addF (vmax (cleanF a).1 (cleanF b).1, (cleanF a).2) (cleanF b).2
theorem vmax_len {a b : List Int} (ha : a.length = 16) (hb : b.length = 16) : (vmax a b).length = 16 := by unfold vmax; rw [List.length_zipWith]; omega
theorem vget_vmax {a b : List Int} (ha : a.length = 16) (hb : b.length = 16) {r : Int} (h0 : 0 ≤ r) (h1 : r < 16) : vget (vmax a b) r = max (vget a r) (vget b r) := by
  unfold vget vmax
  have h2 : r.toNat < a.length := by omega
  have h3 : r.toNat < b.length := by omega
  rw [getD_lt (by rw [List.length_zipWith]; omega), List.getElem_zipWith, getD_lt h2, getD_lt h3]
theorem clean_add {c : CtxT} (hl : c.1.length = 16) (l : List (Int × Int)) : Clean (addF c l) := clean_F (c := (c.1, c.2 ++ l)) hl
theorem has_add {c : CtxT} (hl : c.1.length = 16) (l : List (Int × Int)) (d : Int × Int) : hasC (addF c l) d = (hasC c d || (decide (chk d = 0) && decide (d ∈ l))) := by
  unfold addF
  rw [has_F (c := (c.1, c.2 ++ l)) hl]
  refine Bool.eq_iff_iff.2 ?_
  rw [Bool.or_eq_true, hasC_iff, hasC_iff, Bool.and_eq_true, decide_eq_true_eq, decide_eq_true_eq]
  constructor
  · rintro ⟨g1, g2 | g2⟩
    · exact .inl ⟨g1, .inl g2⟩
    · rcases List.mem_append.1 g2 with g2 | g2
      · exact .inl ⟨g1, .inr g2⟩
      · exact .inr ⟨g1, g2⟩
  · rintro (⟨g1, g2 | g2⟩ | ⟨g1, g2⟩)
    · exact ⟨g1, .inl g2⟩
    · exact ⟨g1, .inr (List.mem_append_left _ g2)⟩
    · exact ⟨g1, .inr (List.mem_append_right _ g2)⟩
theorem clean_join {a b : CtxT} (ha : a.1.length = 16) (hb : b.1.length = 16) : Clean (joinF a b) := clean_add (vmax_len (clean_F ha).len (clean_F hb).len) _
theorem has_join {a b : CtxT} (ha : a.1.length = 16) (hb : b.1.length = 16) (d : Int × Int) : hasC (joinF a b) d = (hasC a d || hasC b d) := by
  unfold joinF
  rw [has_add (vmax_len (clean_F ha).len (clean_F hb).len), ← has_F ha, ← has_F hb]
  refine Bool.eq_iff_iff.2 ?_
  rw [Bool.or_eq_true, Bool.or_eq_true, hasC_iff, hasC_iff, hasC_iff, Bool.and_eq_true, decide_eq_true_eq, decide_eq_true_eq]
  have hv : chk d = 0 → vget (vmax (cleanF a).1 (cleanF b).1) d.1 = max (vget (cleanF a).1 d.1) (vget (cleanF b).1 d.1) := fun h => by
    have := (chk_iff d).1 h
    exact vget_vmax (clean_F ha).len (clean_F hb).len this.1 this.2.1
  constructor
  · rintro (⟨g1, g2 | g2⟩ | ⟨g1, g2⟩)
    · have g2 : d.2 ≤ vget (vmax (cleanF a).1 (cleanF b).1) d.1 := g2
      rw [hv g1] at g2
      rcases Int.le_total (vget (cleanF a).1 d.1) (vget (cleanF b).1 d.1) with g | g
      · exact .inr ⟨g1, .inl (by omega)⟩
      · exact .inl ⟨g1, .inl (by omega)⟩
    · exact .inl ⟨g1, .inr g2⟩
    · exact .inr ⟨g1, .inr g2⟩
  · rintro (⟨g1, g2 | g2⟩ | ⟨g1, g2 | g2⟩)
    · refine .inl ⟨g1, .inl ?_⟩
      show d.2 ≤ vget (vmax (cleanF a).1 (cleanF b).1) d.1
      rw [hv g1]; omega
    · exact .inl ⟨g1, .inr g2⟩
    · refine .inl ⟨g1, .inl ?_⟩
      show d.2 ≤ vget (vmax (cleanF a).1 (cleanF b).1) d.1
      rw [hv g1]; omega
    · exact .inr ⟨g1, g2⟩
theorem join_comm {a b : CtxT} (ha : a.1.length = 16) (hb : b.1.length = 16) : joinF a b = joinF b a := clean_ext (clean_join ha hb) (clean_join hb ha) fun d => by rw [has_join ha hb, has_join hb ha, Bool.or_comm]
theorem join_assoc {a b c : CtxT} (ha : a.1.length = 16) (hb : b.1.length = 16) (hc : c.1.length = 16) : joinF (joinF a b) c = joinF a (joinF b c) :=
  clean_ext (clean_join (clean_join ha hb).len hc) (clean_join ha (clean_join hb hc).len) fun d => by
    rw [has_join (clean_join ha hb).len hc, has_join ha (clean_join hb hc).len, has_join ha hb, has_join hb hc, Bool.or_assoc]
theorem join_again {a b : CtxT} (ha : a.1.length = 16) (hb : b.1.length = 16) : joinF (joinF a b) b = joinF a b :=
  clean_ext (clean_join (clean_join ha hb).len hb) (clean_join ha hb) fun d => by
    rw [has_join (clean_join ha hb).len hb, has_join ha hb, Bool.or_assoc, Bool.or_self]
end Go.Proofs.Ytmhkalalcmkpbaa

namespace Go.Proofs.Ytmhkalalcmkpbaa
set_option linter.unusedVariables false
set_option linter.unusedSimpArgs false

def rangeI (lo hi : Int) : List Int := (List.range (hi + 1 - lo).toNat).map fun (k : Nat) => lo + (k : Int)
theorem mem_rangeI {lo hi x : Int} : x ∈ rangeI lo hi ↔ lo ≤ x ∧ x ≤ hi := by
  unfold rangeI
  rw [List.mem_map]
  constructor
  · rintro ⟨k, hk, rfl⟩
    have := List.mem_range.1 hk
    omega
  · rintro ⟨h1, h2⟩
    exact ⟨(x - lo).toNat, List.mem_range.2 (by omega), by omega⟩
theorem rangeI_nil {lo hi : Int} (h : hi < lo) : rangeI lo hi = [] := by
  unfold rangeI; rw [show (hi + 1 - lo).toNat = 0 by omega]; rfl
theorem rangeI_snoc {lo hi : Int} (h : lo ≤ hi + 1) : rangeI lo (hi + 1) = rangeI lo hi ++ [hi + 1] := by
  unfold rangeI
  rw [show (hi + 1 + 1 - lo).toNat = (hi + 1 - lo).toNat + 1 by omega, List.range_succ, List.map_append]
  simp only [List.map_cons, List.map_nil]
  rw [show lo + ((hi + 1 - lo).toNat : Int) = hi + 1 by omega]
def atRep (i : Nat) (l : List (Int × Int)) : List (Int × Int) := l.filter fun d => decide (d.1 = (i : Int))
/-- The updates of replica i that the second one may have, and the first one not. -/
def cands (a b : CtxT) (i : Nat) : List (Int × Int) := (rangeI (vget a.1 i + 1) (vget b.1 i)).map (fun n => ((i : Int), n)) ++ atRep i b.2
def allC (a b : CtxT) (k : Nat) : List (Int × Int) := (List.range k).flatMap (cands a b)
def lackT (a : CtxT) (p : List (Int × Int)) : List (Int × Int) := (p.filter fun d => !hasC a d).take 4096
def missF (a b : CtxT) : List (Int × Int) := lackT (cleanF a) (allC (cleanF a) (cleanF b) 16)
theorem allC_succ (a b : CtxT) (k : Nat) : allC a b (k + 1) = allC a b k ++ cands a b k := by unfold allC; rw [List.range_succ, List.flatMap_append]; simp
theorem lackT_len (a : CtxT) (p : List (Int × Int)) : (lackT a p).length ≤ 4096 := by unfold lackT; rw [List.length_take]; omega
theorem lackT_yes {a : CtxT} {p : List (Int × Int)} {d : Int × Int} (h : hasC a d = false) (hl : (lackT a p).length < 4096) : lackT a (p ++ [d]) = lackT a p ++ [d] := by
  unfold lackT at hl ⊢
  rw [List.length_take] at hl
  rw [List.filter_append, List.filter_cons, h]
  simp only [Bool.not_false, if_true, List.filter_nil]
  rw [List.take_of_length_le (by rw [List.length_append]; simp; omega), List.take_of_length_le (by omega)]
theorem lackT_no {a : CtxT} {p : List (Int × Int)} {d : Int × Int} (h : hasC a d = true) : lackT a (p ++ [d]) = lackT a p := by
  unfold lackT
  rw [List.filter_append, List.filter_cons, h]
  simp
theorem lackT_full {a : CtxT} {p : List (Int × Int)} (hl : ¬ (lackT a p).length < 4096) (q : List (Int × Int)) : lackT a (p ++ q) = lackT a p := by
  unfold lackT at hl ⊢
  rw [List.length_take] at hl
  rw [List.filter_append, List.take_append_of_le_length (by omega)]
def pushL (a : CtxT) (o : List (Int × Int)) (d : Int × Int) : List (Int × Int) := if hasC a d = false ∧ o.length < 4096 then o ++ [d] else o
theorem lackT_push (a : CtxT) (p : List (Int × Int)) (d : Int × Int) : lackT a (p ++ [d]) = pushL a (lackT a p) d := by
  unfold pushL
  by_cases h : hasC a d = false ∧ (lackT a p).length < 4096
  · rw [if_pos h, lackT_yes h.1 h.2]
  · rw [if_neg h]
    cases hh : hasC a d with
    | true => exact lackT_no hh
    | false => exact lackT_full (fun g => h ⟨hh, g⟩) _
theorem atRep_take {i : Nat} {l : List (Int × Int)} {k : Nat} {d : Int × Int} (h : l[k]? = some d) : atRep i (l.take (k + 1)) = if d.1 = (i : Int) then atRep i (l.take k) ++ [d] else atRep i (l.take k) := by
  obtain ⟨hk, rfl⟩ := List.getElem?_eq_some_iff.1 h
  unfold atRep
  rw [← List.take_append_getElem hk, List.filter_append]
  by_cases e : l[k].1 = (i : Int)
  · rw [if_pos e]; simp [e]
  · rw [if_neg e]; simp [e]
def cmpC (lacks has : Bool) : Int := if (lacks && has) = true then 2 else if lacks = true then -1 else if has = true then 1 else 0
def compareF (a b : CtxT) : Int := cmpC (decide (0 < (missF a b).length)) (decide (0 < (missF b a).length))
theorem mem_allC {a b : CtxT} {k : Nat} {d : Int × Int} : d ∈ allC a b k ↔ ∃ i : Nat, i < k ∧ d.1 = (i : Int) ∧ (vget a.1 i + 1 ≤ d.2 ∧ d.2 ≤ vget b.1 i ∨ d ∈ b.2) := by
  unfold allC cands atRep
  rw [List.mem_flatMap]
  constructor
  · rintro ⟨i, hi, hd⟩
    refine ⟨i, List.mem_range.1 hi, ?_⟩
    rcases List.mem_append.1 hd with hd | hd
    · obtain ⟨n, hn, rfl⟩ := List.mem_map.1 hd
      exact ⟨rfl, .inl (mem_rangeI.1 hn)⟩
    · obtain ⟨h1, h2⟩ := List.mem_filter.1 hd
      exact ⟨by simpa using h2, .inr h1⟩
  · rintro ⟨i, hi, h1, h2⟩
    refine ⟨i, List.mem_range.2 hi, ?_⟩
    rcases h2 with h2 | h2
    · exact List.mem_append_left _ (List.mem_map.2 ⟨d.2, mem_rangeI.2 h2, Prod.ext h1.symm rfl⟩)
    · exact List.mem_append_right _ (List.mem_filter.2 ⟨h2, by simpa using h1⟩)
theorem miss_mem {a b : CtxT} (ha : a.1.length = 16) (hb : b.1.length = 16) (h : (missF a b).length < 4096) (d : Int × Int) : d ∈ missF a b ↔ hasC b d = true ∧ hasC a d = false := by
  have he : missF a b = (allC (cleanF a) (cleanF b) 16).filter fun d => !hasC (cleanF a) d := by
    unfold missF lackT at h ⊢
    rw [List.length_take] at h
    exact List.take_of_length_le (by omega)
  rw [he, List.mem_filter, mem_allC, has_F ha]
  have ca := clean_F ha
  have cb := clean_F hb
  constructor
  · rintro ⟨⟨i, hi, h1, h2⟩, h3⟩
    refine ⟨?_, by simpa using h3⟩
    rw [← has_F hb, hasC_iff]
    rcases h2 with h2 | h2
    · have g1 := ca.at_ i
      have g2 := cb.at_ i
      refine ⟨(chk_iff d).2 ⟨by omega, by omega, by omega, by omega⟩, .inl ?_⟩
      rw [h1]; exact h2.2
    · exact ⟨(cb.ok d h2).1, .inr h2⟩
  · rintro ⟨h1, h2⟩
    refine ⟨?_, by rw [h2]; rfl⟩
    rw [← has_F hb] at h1
    rw [← has_F ha] at h2
    obtain ⟨g1, g2⟩ := (hasC_iff _ _).1 h1
    have hc := (chk_iff d).1 g1
    refine ⟨d.1.toNat, by omega, by omega, ?_⟩
    rw [show ((d.1.toNat : Nat) : Int) = d.1 by omega]
    rcases g2 with g2 | g2
    · refine .inl ⟨?_, g2⟩
      have : ¬ d.2 ≤ vget (cleanF a).1 d.1 := fun g => by
        have : hasC (cleanF a) d = true := (hasC_iff _ _).2 ⟨g1, .inl g⟩
        rw [h2] at this; cases this
      omega
    · exact .inr g2
theorem add_miss {a b : CtxT} (ha : a.1.length = 16) (hb : b.1.length = 16) (h : (missF a b).length < 4096) : addF a (missF a b) = joinF a b :=
  clean_ext (clean_add ha _) (clean_join ha hb) fun d => by
    rw [has_add ha, has_join ha hb]
    refine Bool.eq_iff_iff.2 ?_
    rw [Bool.or_eq_true, Bool.or_eq_true, Bool.and_eq_true, decide_eq_true_eq, decide_eq_true_eq, miss_mem ha hb h]
    constructor
    · rintro (g | ⟨_, g, _⟩)
      · exact .inl g
      · exact .inr g
    · rintro (g | g)
      · exact .inl g
      · cases hh : hasC a d with
        | true => exact .inl rfl
        | false => exact .inr ⟨((hasC_iff _ _).1 g).1, g, rfl⟩
end Go.Proofs.Ytmhkalalcmkpbaa

namespace Go.Proofs.Ytmhkalalcmkpbaa
set_option linter.unusedVariables false
set_option linter.unusedSimpArgs false

def vOk (n : Int) : Bool := decide (0 ≤ n) && decide (n ≤ 1099511627776)
def vE (v : List Int) : Int := if v.all vOk = true then 0 else 2
def ctxE (c : CtxT) : Int := if vE c.1 ≠ 0 then vE c.1 else if cleanF c = c then 0 else 5
def vputE (v : List Int) : Int := vE v
def vputS (v : List Int) : ByteArray := if vE v ≠ 0 then ⟨#[]⟩ else cat (v.map numS)
def cputE (c : CtxT) : Int := if ctxE c ≠ 0 then ctxE c else if 4096 < c.2.length then 3 else if 65536 < (putS c.2).size then 3 else 0
def cputS (c : CtxT) : ByteArray := if cputE c ≠ 0 then ⟨#[]⟩ else cat (c.1.map numS) ++ txS (putS c.2)
def rdV : Nat → ByteArray × Int → List Int × (ByteArray × Int)
  | 0, st => ([], st)
  | n + 1, st => ((rdV n st).1 ++ [((rdN (rdV n st).2).1 : Int)], (rdN (rdV n st).2).2)
def zeroV : List Int := List.replicate 16 0
def vreadE (s : ByteArray) : Int := if doneE (rdV 16 (s, 0)).2 ≠ 0 then doneE (rdV 16 (s, 0)).2 else vE (rdV 16 (s, 0)).1
def vreadT (s : ByteArray) : List Int := if vreadE s ≠ 0 then zeroV else (rdV 16 (s, 0)).1
def cAt (s : ByteArray) : ByteArray × (ByteArray × Int) := rdT (rdV 16 (s, 0)).2
def creadD (s : ByteArray) : CtxT := ((rdV 16 (s, 0)).1, (readD (cAt s).1).1)
def creadE (s : ByteArray) : Int := if doneE (cAt s).2 ≠ 0 then doneE (cAt s).2 else if vE (rdV 16 (s, 0)).1 ≠ 0 then vE (rdV 16 (s, 0)).1 else if (readD (cAt s).1).2 ≠ 0 then (readD (cAt s).1).2 else ctxE (creadD s)
def zeroC : CtxT := (zeroV, [])
def creadT (s : ByteArray) : CtxT := if creadE s ≠ 0 then zeroC else creadD s

theorem rdV_len : ∀ (n : Nat) (st : ByteArray × Int), (rdV n st).1.length = n
  | 0, st => rfl
  | n + 1, st => by show ((rdV n st).1 ++ [_]).length = n + 1; rw [List.length_append, rdV_len n st]; rfl
theorem rdV_size : ∀ (n : Nat) (st : ByteArray × Int), (rdV n st).2.1.size ≤ st.1.size
  | 0, st => Nat.le_refl _
  | n + 1, st => Nat.le_trans (rdN_size (rdV n st).2) (rdV_size n st)
theorem vE_zero {v : List Int} (h : vE v = 0) : ∀ n ∈ v, 0 ≤ n ∧ n ≤ 1099511627776 := by
  unfold vE at h
  by_cases g : v.all vOk = true
  · intro n hn
    have := List.all_eq_true.1 g n hn
    unfold vOk at this
    simpa using this
  · rw [if_neg g] at h; cases h
theorem vE_mk {v : List Int} (h : ∀ n ∈ v, 0 ≤ n ∧ n ≤ 1099511627776) : vE v = 0 := by
  unfold vE
  rw [if_pos (List.all_eq_true.2 fun n hn => by unfold vOk; simpa using h n hn)]
theorem ctxE_zero {c : CtxT} (h : ctxE c = 0) : (∀ n ∈ c.1, 0 ≤ n ∧ n ≤ 1099511627776) ∧ cleanF c = c := by
  unfold ctxE at h
  obtain ⟨h1, h2⟩ := ifE h
  refine ⟨vE_zero h1, ?_⟩
  by_cases g : cleanF c = c
  · exact g
  · rw [if_neg g] at h2; cases h2
theorem ctxE_clean {c : CtxT} (h : Clean c) : ctxE c = 0 := ifE_mk (vE_mk h.rng) (if_pos (clean_id h))
theorem clean_may {c : CtxT} (h : Clean c) : mayG chk ltD c.2 = 0 :=
  may_ok (fun j y hy => (h.ok y (List.mem_of_getElem? hy)).1) fun j x y hx hy => by
    obtain ⟨h1, rfl⟩ := List.getElem?_eq_some_iff.1 hx
    obtain ⟨h2, rfl⟩ := List.getElem?_eq_some_iff.1 hy
    exact List.pairwise_iff_getElem.1 h.inc j (j + 1) h1 h2 (by omega)
theorem cputE_zero {c : CtxT} (hl : c.1.length = 16) (h : cputE c = 0) : ctxE c = 0 ∧ Clean c ∧ putE c.2 = 0 ∧ (putS c.2).size ≤ 65536 := by
  unfold cputE at h
  obtain ⟨h1, h⟩ := ifE h
  obtain ⟨h2, h⟩ := ifP (by decide) h
  obtain ⟨h3, _⟩ := ifP (by decide) h
  have hc : Clean c := by have := clean_F hl; rw [(ctxE_zero h1).2] at this; exact this
  refine ⟨h1, hc, ?_, by omega⟩
  unfold putE; rw [if_neg h2, mayE_G, clean_may hc]
theorem cat_nums (v : List Int) (h : ∀ n ∈ v, 0 ≤ n ∧ n ≤ 1099511627776) : (cat (v.map numS)).data.toList = v.flatMap fun n => bytesN n.toNat := by
  rw [cat_data, List.flatMap_map]
  induction v with
  | nil => rfl
  | cons n v ih =>
    have := h n (by simp)
    rw [List.flatMap_cons, List.flatMap_cons, ih fun m hm => h m (by simp [hm]), numS_data _ (by omega) (by omega)]
theorem cputS_data {c : CtxT} (hl : c.1.length = 16) (h : cputE c = 0) : (cputS c).data.toList = (c.1.flatMap fun n => bytesN n.toNat) ++ (txB (putS c.2) ++ []) := by
  obtain ⟨h1, h2, h3, h4⟩ := cputE_zero hl h
  unfold cputS
  rw [if_neg (by simpa using h), app_data, cat_nums _ h2.rng, txS_data _ h4, List.append_nil]
theorem rdV_put {v : List Int} (h : ∀ n ∈ v, 0 ≤ n ∧ n ≤ 1099511627776) {s : ByteArray} {r : List UInt8} (hs : s.data.toList = (v.flatMap fun n => bytesN n.toNat) ++ r) :
    ∀ k, k ≤ v.length → ∃ s', rdV k (s, 0) = (v.take k, (s', 0)) ∧ s'.data.toList = ((v.drop k).flatMap fun n => bytesN n.toNat) ++ r
  | 0, _ => ⟨s, by simp [rdV], by simpa using hs⟩
  | k + 1, hk => by
    obtain ⟨s1, e1, d1⟩ := rdV_put h hs k (by omega)
    have hk2 : k < v.length := by omega
    rw [List.drop_eq_getElem_cons hk2, List.flatMap_cons, List.append_assoc] at d1
    have hb := h v[k] (List.getElem_mem hk2)
    obtain ⟨s2, e2, d2⟩ := rdN_put s1 _ _ (by omega) d1
    refine ⟨s2, ?_, d2⟩
    show ((rdV k (s, 0)).1 ++ [((rdN (rdV k (s, 0)).2).1 : Int)], (rdN (rdV k (s, 0)).2).2) = _
    rw [e1, e2, ← List.take_append_getElem hk2, Int.toNat_of_nonneg hb.1]
theorem rdV_back : ∀ (n : Nat) (st : ByteArray × Int), (rdV n st).2.2 = 0 → st.2 = 0 ∧ st.1.data.toList = ((rdV n st).1.flatMap fun n => bytesN n.toNat) ++ (rdV n st).2.1.data.toList
  | 0, st, h => ⟨h, by simp [rdV]⟩
  | n + 1, st, h => by
    have h1 : (rdN ((rdV n st).2.1, (rdV n st).2.2)).2.2 = 0 := h
    obtain ⟨a, b, c⟩ := rdN_back _ _ h1
    obtain ⟨d, e⟩ := rdV_back n st a
    refine ⟨d, ?_⟩
    rw [e, b]
    show _ = ((rdV n st).1 ++ [((rdN (rdV n st).2).1 : Int)]).flatMap _ ++ (rdN (rdV n st).2).2.1.data.toList
    rw [List.flatMap_append, List.append_assoc]
    simp only [List.flatMap_cons, List.flatMap_nil, List.append_nil, Int.toNat_natCast]
theorem cread_put {c : CtxT} (hl : c.1.length = 16) (h : cputE c = 0) : creadE (cputS c) = 0 ∧ creadT (cputS c) = c := by
  have hd := cputS_data hl h
  obtain ⟨h1, h2, h3, h4⟩ := cputE_zero hl h
  generalize cputS c = s at hd ⊢
  obtain ⟨s1, e1, d1⟩ := rdV_put h2.rng hd 16 (by omega)
  rw [List.take_of_length_le (by omega)] at e1
  rw [List.drop_eq_nil_of_le (by omega), List.flatMap_nil, List.nil_append] at d1
  obtain ⟨s2, e2, d2⟩ := rdT_put s1 _ _ h4 d1
  have ea : cAt s = (putS c.2, (s2, 0)) := by unfold cAt; rw [e1, e2]
  have hs : s2.size = 0 := by rw [← len_data, d2]; rfl
  have hdn : doneE (s2, 0) = 0 := by unfold doneE; rw [if_neg (by simp), if_pos hs]
  have p3 := readD_put _ h3
  have hD : creadD s = c := by unfold creadD; rw [ea, e1]; simp only [p3]
  have hE : creadE s = 0 := by
    unfold creadE
    rw [ea, e1, hD]
    exact ifE_mk hdn (ifE_mk (vE_mk h2.rng) (ifE_mk (by rw [p3]) h1))
  refine ⟨hE, ?_⟩
  unfold creadT
  rw [if_neg (by simpa using hE), hD]
theorem creadT_len (s : ByteArray) : (creadT s).1.length = 16 := by
  unfold creadT
  split
  · rfl
  · exact rdV_len 16 _
theorem rdT_backP (st : ByteArray × Int) (h : (rdT st).2.2 = 0) : st.2 = 0 ∧ st.1.data.toList = txB (rdT st).1 ++ (rdT st).2.1.data.toList ∧ (rdT st).1.size ≤ 65536 := by
  obtain ⟨a, b⟩ := st
  exact rdT_back a b h
theorem cput_read {s : ByteArray} (h : creadE s = 0) : cputE (creadT s) = 0 ∧ cputS (creadT s) = s := by
  have hT : creadT s = creadD s := by unfold creadT; rw [if_neg (by simpa using h)]
  have hl := creadT_len s
  rw [hT] at hl ⊢
  unfold creadE at h
  obtain ⟨h1, h⟩ := ifE h
  obtain ⟨h2, h⟩ := ifE h
  obtain ⟨h3, h0⟩ := ifE h
  obtain ⟨g1, g2⟩ := doneE_zero h1
  unfold cAt at g1
  obtain ⟨a5, b5, c5⟩ := rdT_backP _ g1
  obtain ⟨a4, b4⟩ := rdV_back 16 (s, 0) a5
  obtain ⟨q3, q4⟩ := readD_back _ h3
  have hB : (putS (creadD s).2) = (cAt s).1 := q4
  have s1 : (cAt s).1.size ≤ 65536 := by unfold cAt; exact c5
  have hq : (creadD s).2.length ≤ 4096 := by
    have : putE (creadD s).2 = 0 := q3
    unfold putE at this
    exact Nat.le_of_not_lt (ifP (by decide) this).1
  have hE : cputE (creadD s) = 0 := by
    unfold cputE
    refine ifE_mk h0 ?_
    rw [if_neg (by omega), if_neg (by rw [hB]; omega)]
  refine ⟨hE, ba_ext ?_⟩
  rw [cputS_data hl hE, hB]
  have e : (cAt s).2.1.data.toList = [] := List.eq_nil_of_length_eq_zero (by rw [len_data]; exact g2)
  rw [← e]
  unfold cAt creadD
  rw [← b5, ← b4]
end Go.Proofs.Ytmhkalalcmkpbaa

namespace Go.Proofs.Ytmhkalalcmkpbaa
open Go Go.RowKit
set_option linter.unusedVariables false
set_option linter.unusedSimpArgs false

def encI (n : Int) : List AV := [iA n]
abbrev iL (v : List Int) : List AV := v.map fun n => iA n
abbrev vA (v : List Int) : AV := .agg (iL v)
theorem vals_ints : ∀ (v : List Int), AV.vals (iL v) = v.map fun n => Value.int .i64 n
  | [] => rfl
  | n :: v => by show _ :: AV.vals (iL v) = _; rw [vals_ints v]; rfl
theorem exL_ints : ∀ (v : List Int), AV.exL (iL v) = true
  | [] => rfl
  | n :: v => by show (true && AV.exL (iL v)) = true; rw [exL_ints v]; rfl
theorem eqItems_ints {P : Program} {e : TypeId} (he : P.plainKey e = true) (hu : P.underlying e = some (.int .i64)) (hc : P.cellsOf e = 1) (d : Nat) (w : World) (v u : List Int) : ∀ (is : List Nat), (∀ i ∈ is, i < v.length ∧ i < u.length) →
    (Op.eqItems (d + 1) e 1 (v.map fun n => Value.int .i64 n).toArray (u.map fun n => Value.int .i64 n).toArray is).run P w = .ok (is.all fun i => decide (v[i]? = u[i]?)) w
  | [], _ => by simp [Op.eqItems]
  | i :: is, h => by
    obtain ⟨h1, h2⟩ := h i (by simp)
    have p1 : (part e (v.map fun n => Value.int .i64 n).toArray (i * 1)).run P w = .ok (.int .i64 v[i]) w := run_part_plain w he (by simp [h1])
    have p2 : (part e (u.map fun n => Value.int .i64 n).toArray (i * 1)).run P w = .ok (.int .i64 u[i]) w := run_part_plain w he (by simp [h2])
    have ih := eqItems_ints he hu hc d w v u is fun j hj => h j (by simp [hj])
    simp only [Op.eqItems, Sem.run_bind, p1, p2, Result.andThen_ok, run_equalIn_int w d e .i64 .i64 _ _ hu]
    by_cases e1 : v[i] = u[i]
    · simp only [e1, beq_self_eq_true, Bool.not_true, Bool.false_eq_true, if_false]
      rw [ih, List.all_cons, List.getElem?_eq_getElem h1, List.getElem?_eq_getElem h2, e1]
      simp
    · have e2 : (v[i] == u[i]) = false := by simpa using e1
      simp only [e2, Bool.not_false, if_true]
      rw [List.all_cons, List.getElem?_eq_getElem h1, List.getElem?_eq_getElem h2]
      simp [e1]
set_option maxRecDepth 100000 in
theorem eqV (w : World) (v u : List Int) (hv : v.length = 16) (hu : u.length = 16) : (Op.equalIn 10000 53 (.agg (AV.vals (iL v)).toArray) (.agg (AV.vals (iL u)).toArray)).run Try.prog w = .ok (decide (v = u)) w := by
  obtain ⟨ti, hti⟩ := Option.isSome_iff_exists.1 (show (Try.prog.info? 3).isSome = true by kernel_rfl)
  rw [vals_ints, vals_ints, run_equalIn_array (P := Try.prog) (w := w) 9999 (t := 53) (e := 3) (n := 16) _ _ (by kernel_rfl) hti, show Try.prog.cellsOf 3 = 1 by kernel_rfl,
    eqItems_ints (P := Try.prog) (by kernel_rfl) (by kernel_rfl) (by kernel_rfl) 9998 w v u (List.range 16) (fun i hi => by have := List.mem_range.1 hi; omega)]
  congr 1
  rw [Bool.eq_iff_iff, List.all_eq_true, decide_eq_true_eq]
  constructor
  · intro h
    refine List.ext_getElem? fun i => ?_
    rcases Nat.lt_or_ge i 16 with hi | hi
    · simpa using h i (List.mem_range.2 hi)
    · rw [List.getElem?_eq_none (by omega), List.getElem?_eq_none (by omega)]
  · rintro rfl i _
    simp
theorem guardV : Try.prog.eqGuardType Try.prog.depth 53 = false := by kernel_rfl
end Go.Proofs.Ytmhkalalcmkpbaa

namespace Go.Proofs.Ytmhkalalcmkpbaa
open Go
theorem ty53 : tyOf Try.prog 53 = some (true, 16) := by kernel_rfl
theorem ze53 : tyZero Try.prog 53 = some [.int .i64 0, .int .i64 0, .int .i64 0, .int .i64 0, .int .i64 0, .int .i64 0, .int .i64 0, .int .i64 0, .int .i64 0, .int .i64 0, .int .i64 0, .int .i64 0, .int .i64 0, .int .i64 0, .int .i64 0, .int .i64 0] := by kernel_rfl
theorem ro53 : rowOf Try.prog 53 = some (16, 128) := by kernel_rfl
theorem ty55 : tyOf Try.prog 55 = some (true, 17) := by kernel_rfl
theorem ze55 : tyZero Try.prog 55 = some [.int .i64 0, .int .i64 0, .int .i64 0, .int .i64 0, .int .i64 0, .int .i64 0, .int .i64 0, .int .i64 0, .int .i64 0, .int .i64 0, .int .i64 0, .int .i64 0, .int .i64 0, .int .i64 0, .int .i64 0, .int .i64 0, .slice none 0 0] := by kernel_rfl
theorem ro55 : rowOf Try.prog 55 = some (17, 152) := by kernel_rfl
theorem fl55_0 : tyField Try.prog 55 0 = some (0, 53) := by kernel_rfl
theorem fl55_1 : tyField Try.prog 55 1 = some (16, 27) := by kernel_rfl
theorem pl55 : stPlaces Try.prog 55 = some [(0, 16), (16, 1)] := by kernel_rfl
theorem ty52 : tyOf Try.prog 52 = some (true, 16) := by kernel_rfl
theorem ze52 : tyZero Try.prog 52 = some [.int .i64 0, .int .i64 0, .int .i64 0, .int .i64 0, .int .i64 0, .int .i64 0, .int .i64 0, .int .i64 0, .int .i64 0, .int .i64 0, .int .i64 0, .int .i64 0, .int .i64 0, .int .i64 0, .int .i64 0, .int .i64 0] := by kernel_rfl
theorem ro52 : rowOf Try.prog 52 = some (16, 128) := by kernel_rfl
end Go.Proofs.Ytmhkalalcmkpbaa

namespace Go.Proofs.Ytmhkalalcmkpbaa
open Go Go.RowKit
set_option linter.unusedVariables false
set_option linter.unusedSimpArgs false

theorem iL_len {v : List Int} (h : v.length = 16) : (iL v).length = 16 := by rw [List.length_map]; exact h
theorem iL_at {v : List Int} {i : Nat} {x : Int} (h : v[i]? = some x) : (iL v)[i * 1]? = some (iA x) := by rw [Nat.mul_one, List.getElem?_map, h]; rfl
theorem iL_at0 {v : List Int} {i : Nat} {x : Int} (h : v[i]? = some x) : (iL v)[0 + i * 1]? = some (iA x) := by rw [Nat.zero_add]; exact iL_at h
theorem iL_set {v : List Int} {i : Nat} {x : Int} : (iL v).set (0 + i * 1) (iA x) = iL (v.set i x) := by
  rw [Nat.zero_add, Nat.mul_one]
  exact List.map_set.symm
theorem spl_whole {α : Type} {cs news : List α} (h : cs.length = news.length) : spl cs 0 news = news := by
  unfold spl
  rw [Nat.zero_add, ← h, List.drop_length]
  simp
theorem zeroV_len : zeroV.length = 16 := rfl
theorem vget_at {v : List Int} {r : Int} (h : v.length = 16) (h0 : 0 ≤ r) (h1 : r < 16) : v[r.toNat]? = some (vget v r) := by
  have hr : r.toNat < v.length := by omega
  unfold vget
  rw [getD_lt hr, List.getElem?_eq_getElem hr]
theorem eql0_t {a : Int} (h : a = 0) : icmp .eql a 0 = some true := congrArg some (decide_eq_true h)
theorem eql0_f {a : Int} (h : a ≠ 0) : icmp .eql a 0 = some false := congrArg some (decide_eq_false h)
theorem leqq_t {a b : Int} (h : a ≤ b) : icmp .leq a b = some true := congrArg some (decide_eq_true h)
theorem leqq_f {a b : Int} (h : ¬ a ≤ b) : icmp .leq a b = some false := congrArg some (decide_eq_false h)
def badN (x : Int) : Bool := decide (x < 0) || decide (1099511627776 < x)
theorem badN_ok {x : Int} (h : badN x = false) : vOk x = true := by
  unfold badN at h; unfold vOk
  rw [Bool.or_eq_false_iff, decide_eq_false_iff_not, decide_eq_false_iff_not] at h
  rw [decide_eq_true (by omega : 0 ≤ x), decide_eq_true (by omega : x ≤ 1099511627776)]; rfl
theorem badN_no {x : Int} (h : badN x = true) : vOk x = false := by
  cases hh : vOk x with
  | false => rfl
  | true =>
    unfold badN at h; unfold vOk at hh
    rw [Bool.or_eq_true, decide_eq_true_eq, decide_eq_true_eq] at h
    rw [Bool.and_eq_true, decide_eq_true_eq, decide_eq_true_eq] at hh
    omega
theorem vE_bad {v : List Int} {i : Nat} {x : Int} (h : v[i]? = some x) (hb : badN x = true) : vE v = 2 := by
  unfold vE
  rw [if_neg]
  intro hall
  have := List.all_eq_true.1 hall x (List.mem_of_getElem? h)
  rw [badN_no hb] at this; cases this
theorem vE_all {v : List Int} (h : ∀ (j : Nat) y, v[j]? = some y → vOk y = true) : vE v = 0 := by
  unfold vE
  rw [if_pos]
  exact List.all_eq_true.2 fun x hx => by obtain ⟨j, hj⟩ := List.mem_iff_getElem?.1 hx; exact h j x hj
theorem has_cases (v : List Int) (d : Int × Int) : (chk d ≠ 0 ∧ vhas v d = false) ∨ (chk d = 0 ∧ d.2 ≤ vget v d.1 ∧ vhas v d = true) ∨ (chk d = 0 ∧ ¬ d.2 ≤ vget v d.1 ∧ vhas v d = false) := by
  unfold vhas
  by_cases h1 : chk d = 0
  · by_cases h2 : d.2 ≤ vget v d.1
    · exact .inr (.inl ⟨h1, h2, by rw [decide_eq_true h1, decide_eq_true h2]; rfl⟩)
    · exact .inr (.inr ⟨h1, h2, by rw [decide_eq_false h2]; simp⟩)
  · exact .inl ⟨h1, by rw [decide_eq_false h1]; rfl⟩
def vTo (f : Int → Int → Int) (a b : List Int) (i : Nat) : List Int := (List.zipWith f a b).take i ++ a.drop i
theorem vTo_len {f : Int → Int → Int} {a b : List Int} (ha : a.length = 16) (hb : b.length = 16) {i : Nat} (hi : i ≤ 16) : (vTo f a b i).length = 16 := by
  unfold vTo; rw [List.length_append, List.length_take, List.length_drop, List.length_zipWith]; omega
theorem vTo_at {f : Int → Int → Int} {a b : List Int} {i : Nat} {x : Int} (ha : a.length = 16) (hb : b.length = 16) (hi : i < 16) (h : a[i]? = some x) : (vTo f a b i)[i]? = some x := by
  unfold vTo
  have hl : ((List.zipWith f a b).take i).length = i := by rw [List.length_take, List.length_zipWith]; omega
  rw [List.getElem?_append_right (by omega), hl, Nat.sub_self, List.getElem?_drop, Nat.add_zero]; exact h
theorem vTo_set {f : Int → Int → Int} {a b : List Int} {i : Nat} {x y : Int} (ha : a.length = 16) (hb : b.length = 16) (hi : i < 16) (h : a[i]? = some x) (h2 : b[i]? = some y) : (vTo f a b i).set i (f x y) = vTo f a b (i + 1) := by
  unfold vTo
  have hl : ((List.zipWith f a b).take i).length = i := by rw [List.length_take, List.length_zipWith]; omega
  have hz : i < (List.zipWith f a b).length := by rw [List.length_zipWith]; omega
  have hia : i < a.length := by omega
  rw [List.set_append_right _ _ (by omega), hl, Nat.sub_self, List.drop_eq_getElem_cons hia, List.set_cons_zero, ← List.take_append_getElem hz, List.append_assoc, List.getElem_zipWith]
  have e1 : a[i] = x := (List.getElem?_eq_some_iff.1 h).2
  have e2 : b[i]'(by omega) = y := (List.getElem?_eq_some_iff.1 h2).2
  rw [e1, e2]; rfl
theorem vTo_all {f : Int → Int → Int} {a b : List Int} (ha : a.length = 16) (hb : b.length = 16) : vTo f a b 16 = List.zipWith f a b := by
  unfold vTo
  rw [List.take_of_length_le (by rw [List.length_zipWith]; omega), List.drop_eq_nil_of_le (by omega), List.append_nil]
theorem vTo_zero (f : Int → Int → Int) (a b : List Int) : vTo f a b 0 = a := by unfold vTo; simp
theorem avV {a b : List Int} (h : a = b) : vA a = vA b := by rw [h]
theorem nums16 (v : List Int) (hv : v.length = 16) (k : Nat) : (cat ((v.take k).map numS)).size ≤ 128 := by
  have h := cat_size (k := 8) ((v.take k).map numS) fun x hx => by obtain ⟨n, _, rfl⟩ := List.mem_map.1 hx; exact numS_size n
  have h2 : ((v.take k).map numS).length ≤ 16 := by rw [List.length_map, List.length_take]; omega
  omega
theorem vputS_err {v : List Int} (h : vE v ≠ 0) : vputS v = ⟨#[]⟩ := if_pos h
theorem vputS_ok {v : List Int} (h : vE v = 0) : vputS v = cat (v.map numS) := if_neg (by simpa using h)
theorem vmax_len' {a b : List Int} (ha : a.length = 16) (hb : b.length = 16) : (vmax a b).length = 16 := vmax_len ha hb

set_option maxRecDepth 100000 in
theorem vcheck_p (v : List Int) (hv : v.length = 16) : PFn Try.prog False 95 [vA v] (iA (vE v)) := by
  refine pfn Try.func95 rfl (by kernel_rfl) 16 rfl _ rfl (Nat.le_of_ble_eq_true rfl) (fun X w0 => ?_)
  refine wSeq ?_
  refine wReg ?_
  refine sBox rfl rfl rfl rfl rfl (fun g1 => ?_)
  refine sP rfl rfl rfl (pA rfl rfl) ?_
  refine lNil ?_
  refine wSeq ?_
  refine wSeq ?_
  refine wReg ?_
  refine sP rfl rfl rfl (pLdW 0 rfl rfl rfl ty53 (iL_len hv)) ?_
  refine sP rfl rfl rfl (pM rfl rfl) ?_
  refine lNil ?_
  refine wBlock ?_
  refine wLoop (fun mm L h => ∃ i, mm = 16 - i ∧ i ≤ 16 ∧ (∀ j y, j < i → v[j]? = some y → vOk y = true) ∧ L = [(5, vA v), (6, iA (i : Nat))] ∧ h = []) ⟨_, _, _, _, ⟨0, rfl, Nat.zero_le _, fun j y hj => absurd hj (by omega), rfl, rfl⟩, ⟨rfl, rfl, trivial⟩, rfl⟩ ?_
  rintro mm L h ⟨i, rfl, hi, h0, rfl, rfl⟩
  refine wSeq ?_
  refine wReg ?_
  refine sP rfl rfl rfl (p_icmp rfl rfl rfl rfl) ?_
  refine lNil ?_
  refine wSeq ?_
  refine wCond rfl (fun hc1 => ?_) (fun hc1 => ?_)
  · have hi16 : i < 16 := by have h := hc1; simp at h; omega
    obtain ⟨x, hx⟩ : ∃ x, v[i]? = some x := getL (by omega)
    refine wSkip ?_
    refine wSeq ?_
    refine wBlock ?_
    refine wSeq ?_
    refine wReg ?_
    refine sP rfl rfl rfl (p_index_arr rfl rfl Try.underlying53 ty3 rfl (i := i) rfl hi16 (.inr ⟨rfl, iL_at hx⟩)) ?_
    refine sP rfl rfl rfl (pA rfl rfl) ?_
    refine lNil ?_
    refine wCut (fun L h => ∃ b : Bool, b = (badN x) ∧ L = [(4, iA x), (5, vA v), (6, iA (i : Nat)), (14, bA b)] ∧ h = []) ?_ ?_
    · cases hb : (decide (x < 0)) with
      | true =>
        refine wReg ?_
        refine sP rfl rfl rfl (pM rfl rfl) ?_
        refine sP rfl rfl rfl (p_icmp rfl rfl rfl (congrArg some hb)) ?_
        refine sP rfl rfl rfl (pM rfl rfl) ?_
        refine sU rfl rfl rfl (by decide) rfl rfl ?_
        refine sU rfl rfl rfl (by decide) rfl rfl ?_
        refine sP rfl rfl rfl (p_pick rfl rfl rfl) ?_
        refine lNil ?_
        exact ⟨_, [], [], ⟨_, (by exact (by unfold badN; rw [hb]; rfl)), rfl, rfl⟩, ⟨rfl, rfl, rfl, rfl, trivial⟩, rfl⟩
      | false =>
        refine wReg ?_
        refine sP rfl rfl rfl (pM rfl rfl) ?_
        refine sP rfl rfl rfl (p_icmp rfl rfl rfl (congrArg some hb)) ?_
        refine sP rfl rfl rfl (pM rfl rfl) ?_
        refine sG rfl rfl rfl rfl rfl (pM rfl rfl) ?_
        refine sG rfl rfl rfl rfl rfl (p_icmp rfl rfl rfl rfl) ?_
        refine sP rfl rfl rfl (p_pick rfl rfl rfl) ?_
        refine lNil ?_
        exact ⟨_, [], [], ⟨_, (by exact (by unfold badN; rw [hb]; rfl)), rfl, rfl⟩, ⟨rfl, rfl, rfl, rfl, trivial⟩, rfl⟩
    · rintro L h ⟨b, hb, rfl, rfl⟩
      refine wCond rfl (fun hc2 => ?_) (fun hc2 => ?_)
      · refine wSeq ?_
        refine wReg ?_
        refine sP rfl rfl rfl (pA rfl rfl) ?_
        refine lNil ?_
        refine wRet ?_
        exact rgs1 (rg_tmp (gives_sub (Sub.of_eq (avI (vE_bad hx (hb.symm.trans hc2)).symm))))
      · refine wSkip ?_
        refine wReg ?_
        refine sP rfl rfl rfl (p_iar rfl rfl rfl rfl) ?_
        refine sP rfl rfl rfl (pM rfl rfl) ?_
        refine lNil ?_
        have hok := badN_ok (hb.symm.trans hc2)
        refine ⟨_, _, [], _, ?_, ⟨i + 1, rfl, hi16, fun j y hj hy => ?_, rfl, rfl⟩, ⟨rfl, avI (wrapI (by omega) (by omega)), trivial⟩, rfl⟩
        · omega
        · rcases Nat.lt_or_ge j i with h | h
          · exact h0 j y h hy
          · obtain rfl : j = i := by omega
            rw [hx] at hy; injection hy with hy; rw [← hy]; exact hok
  · have hge : i = 16 := by have h := hc1; simp at h; omega
    subst hge
    refine wExit ?_
    refine wSeq ?_
    refine wReg ?_
    refine sP rfl rfl rfl (pA rfl rfl) ?_
    refine lNil ?_
    refine wRet ?_
    exact rgs1 (rg_tmp (gives_sub (Sub.of_eq (avI (vE_all fun j y hy => h0 j y (by have := (List.getElem?_eq_some_iff.1 hy).1; omega) hy).symm))))
theorem ones_ints : ∀ v : List Int, AV.ones (iL v) = true
  | [] => rfl
  | n :: v => by show (true && AV.ones (iL v)) = true; rw [ones_ints v]; rfl

set_option maxRecDepth 100000 in
theorem vjoin_p (a b : List Int) (ha : a.length = 16) (hb : b.length = 16) : PFn Try.prog False 121 [vA a, vA b] (vA (vmax a b)) := by
  refine pfn Try.func121 rfl (by kernel_rfl) 21 rfl _ rfl (Nat.le_of_ble_eq_true rfl) (fun X w0 => ?_)
  refine wSeq ?_
  refine wReg ?_
  refine sBox rfl rfl rfl rfl rfl (fun g2 => ?_)
  refine sBox rfl rfl rfl rfl rfl (fun g3 => ?_)
  refine sAlloc rfl rfl rfl rfl ze53 (fun g4 => ?_)
  refine lNil ?_
  refine wSeq ?_
  refine wSeq ?_
  refine wReg ?_
  refine sP rfl rfl rfl (pLdW 1 rfl rfl rfl ty53 (iL_len hb)) ?_
  refine sP rfl rfl rfl (pM rfl rfl) ?_
  refine lNil ?_
  refine wBlock ?_
  refine wLoop (fun mm L h => ∃ i, mm = 16 - i ∧ i ≤ 16 ∧ L = [(2, .x (.pointer (some ⟨g2, 0, none⟩))), (4, .x (.pointer (some ⟨g4, 0, none⟩))), (7, vA b), (8, iA (i : Nat))] ∧ h = [.cells g2 53 (iL (vTo max a b i)), .cells g3 53 (iL b), .cells g4 53 (iL zeroV)]) ⟨_, _, [.cells g2 53 (iL a), .cells g3 53 (iL b), .cells g4 53 (iL zeroV)], _, ⟨0, rfl, Nat.zero_le _, rfl, by rw [vTo_zero]⟩, ⟨rfl, rfl, rfl, rfl, trivial⟩, rfl⟩ ?_
  rintro mm L h ⟨i, rfl, hi, rfl, rfl⟩
  refine wSeq ?_
  refine wReg ?_
  refine sP rfl rfl rfl (p_icmp rfl rfl rfl rfl) ?_
  refine lNil ?_
  refine wSeq ?_
  refine wCond rfl (fun hc1 => ?_) (fun hc1 => ?_)
  · have hi16 : i < 16 := by have h := hc1; simp at h; omega
    obtain ⟨x, hx⟩ : ∃ x, a[i]? = some x := getL (by omega)
    obtain ⟨y, hy⟩ : ∃ y, b[i]? = some y := getL (by omega)
    refine wSkip ?_
    refine wSeq ?_
    refine wBlock ?_
    refine wSeq ?_
    refine wReg ?_
    refine sP rfl rfl rfl (pM rfl rfl) ?_
    refine sP rfl rfl rfl (p_index_arr rfl rfl Try.underlying53 ty3 rfl (i := i) rfl hi16 (.inr ⟨rfl, iL_at hy⟩)) ?_
    refine sP rfl rfl rfl (pA rfl rfl) ?_
    refine sP rfl rfl rfl (pA rfl rfl) ?_
    refine lNil ?_
    refine wReg ?_
    refine sP rfl rfl rfl (pM rfl rfl) ?_
    refine sP rfl rfl rfl (pM rfl rfl) ?_
    refine sP rfl rfl rfl (p_indexAddr_arr rfl rfl Try.underlying53 ty3 rfl (i := i) rfl hi16) ?_
    refine sP rfl rfl rfl (pLdO1 0 rfl rfl rfl ty3 (iL_at0 (vTo_at ha hb hi16 hx))) ?_
    refine sP rfl rfl rfl (pM rfl rfl) ?_
    refine sP rfl rfl rfl (p_max rfl rfl rfl) ?_
    refine sP rfl rfl rfl (p_indexAddr_arr rfl rfl Try.underlying53 ty3 rfl (i := i) rfl hi16) ?_
    refine sStore1 0 rfl rfl rfl rfl rfl ty3 rfl rfl (by rw [iL_len (vTo_len ha hb hi)]; omega) ?_
    refine lNil ?_
    refine wReg ?_
    refine sP rfl rfl rfl (p_iar rfl rfl rfl rfl) ?_
    refine sP rfl rfl rfl (pM rfl rfl) ?_
    refine lNil ?_
    refine ⟨_, _, [.cells g2 53 (iL (vTo max a b (i + 1))), .cells g3 53 (iL b), .cells g4 53 (iL zeroV)], [], ?_, ⟨i + 1, rfl, hi16, rfl, rfl⟩, ⟨rfl, rfl, rfl, avI (wrapI (by omega) (by omega)), trivial⟩, ?_⟩
    · omega
    · show [HObj.cells g2 _ ((iL (vTo max a b i)).set (0 + i * 1) (iA (max x y))), _, _] = _
      rw [iL_set, vTo_set ha hb hi16 hx hy]
      rfl
  · have hge : i = 16 := by have h := hc1; simp at h; omega
    subst hge
    refine wExit ?_
    refine wSeq ?_
    refine wReg ?_
    refine sP rfl rfl rfl (pLdW 0 rfl rfl rfl ty53 (iL_len (vTo_len ha hb (Nat.le_refl _)))) ?_
    refine sStore 2 rfl rfl rfl rfl rfl ty53 rfl (ones_ints _) (iL_len (vTo_len ha hb (Nat.le_refl _))) (Nat.le_of_ble_eq_true rfl) ?_
    refine lNil ?_
    refine wRet ?_
    have hsp : spl (iL zeroV) 0 (iL (vTo max a b 16)) = iL (vmax a b) := by
      rw [spl_whole (by rw [iL_len zeroV_len, iL_len (vTo_len ha hb (Nat.le_refl _))]), vTo_all ha hb]
      rfl
    exact rgs1 (rg_cell rfl (List.mem_of_getElem? (i := 2) rfl) ty53 (.inl ⟨rfl, by rw [hsp, iL_len (vmax_len ha hb)]; exact Nat.le_refl _, rfl⟩) (gives_sub (Sub.of_eq (by rw [hsp, List.take_of_length_le (by rw [iL_len (vmax_len ha hb)]; exact Nat.le_refl _)]))))
set_option maxRecDepth 100000 in
theorem vhas_p (v : List Int) (d : Int × Int) (hv : v.length = 16) : PFn Try.prog False 99 [vA v, dA d] (bA (vhas v d)) := by
  refine pfn Try.func99 rfl (by kernel_rfl) 17 rfl _ rfl (Nat.le_of_ble_eq_true rfl) (fun X w0 => ?_)
  refine wSeq ?_
  refine wReg ?_
  refine sBox rfl rfl rfl rfl rfl (fun g2 => ?_)
  refine sBox rfl rfl rfl rfl rfl (fun g3 => ?_)
  refine sP rfl rfl rfl (pA rfl rfl) ?_
  refine lNil ?_
  refine wCut (fun L h => ∃ b : Bool, b = (vhas v d) ∧ L = [(2, .x (.pointer (some ⟨g2, 0, none⟩))), (4, bA b)] ∧ h = []) ?_ ?_
  · rcases has_cases v d with ⟨e1, hbv⟩ | ⟨e1, e2, hbv⟩ | ⟨e1, e2, hbv⟩
    · refine wDraw 13 (by kernel_rfl) (by kernel_rfl) ?_
      refine sP rfl rfl rfl (pLdW 1 rfl rfl rfl ty23 rfl) ?_
      refine sP rfl rfl rfl (p_call rfl (dcheck_p d) ⟨Sub.refl, trivial⟩) ?_
      refine sP rfl rfl rfl (p_icmp rfl rfl rfl (eql0_f e1)) ?_
      refine sP rfl rfl rfl (pM rfl rfl) ?_
      refine sUx rfl rfl rfl (by decide) rfl rfl ?_
      refine sUx rfl rfl rfl (by decide) rfl rfl ?_
      refine sUx rfl rfl rfl (by decide) rfl rfl ?_
      refine sUx rfl rfl rfl (by decide) rfl rfl ?_
      refine sUx rfl rfl rfl (by decide) rfl rfl ?_
      refine sUx rfl rfl rfl (by decide) rfl rfl ?_
      refine sUx rfl rfl rfl (by decide) rfl rfl ?_
      refine sP rfl rfl rfl (p_pick rfl rfl rfl) ?_
      refine sP rfl rfl rfl (pA rfl rfl) ?_
      refine lTail ?_
      refine lNil ?_
      exact ⟨_, [], _, ⟨_, (by exact hbv.symm), rfl, rfl⟩, ⟨rfl, rfl, trivial⟩, rfl⟩
    · refine wDraw 13 (by kernel_rfl) (by kernel_rfl) ?_
      refine sP rfl rfl rfl (pLdW 1 rfl rfl rfl ty23 rfl) ?_
      refine sP rfl rfl rfl (p_call rfl (dcheck_p d) ⟨Sub.refl, trivial⟩) ?_
      refine sP rfl rfl rfl (p_icmp rfl rfl rfl (eql0_t e1)) ?_
      refine sP rfl rfl rfl (pM rfl rfl) ?_
      refine sG rfl rfl rfl rfl rfl (p_fieldAddr_own rfl rfl fl23_1 ty3 (by decide)) ?_
      refine sG rfl rfl rfl rfl rfl (pLdO1 1 rfl rfl rfl ty3 rfl) ?_
      refine sG rfl rfl rfl rfl rfl (p_fieldAddr_own rfl rfl fl23_0 ty3 (by decide)) ?_
      refine sG rfl rfl rfl rfl rfl (pLdO1 1 rfl rfl rfl ty3 rfl) ?_
      refine sG rfl rfl rfl rfl rfl (p_indexAddr_arr rfl rfl Try.underlying53 ty3 rfl (i := d.1.toNat) (by have := (chk_iff d).1 e1; omega) (by have := (chk_iff d).1 e1; omega)) ?_
      refine sG rfl rfl rfl rfl rfl (pLdO1 0 rfl rfl rfl ty3 (iL_at0 (vget_at hv ((chk_iff d).1 e1).1 ((chk_iff d).1 e1).2.1))) ?_
      refine sG rfl rfl rfl rfl rfl (p_icmp rfl rfl rfl (leqq_t e2)) ?_
      refine sP rfl rfl rfl (p_pick rfl rfl rfl) ?_
      refine sP rfl rfl rfl (pA rfl rfl) ?_
      refine lTail ?_
      refine lNil ?_
      exact ⟨_, [], _, ⟨_, (by exact hbv.symm), rfl, rfl⟩, ⟨rfl, rfl, trivial⟩, rfl⟩
    · refine wDraw 13 (by kernel_rfl) (by kernel_rfl) ?_
      refine sP rfl rfl rfl (pLdW 1 rfl rfl rfl ty23 rfl) ?_
      refine sP rfl rfl rfl (p_call rfl (dcheck_p d) ⟨Sub.refl, trivial⟩) ?_
      refine sP rfl rfl rfl (p_icmp rfl rfl rfl (eql0_t e1)) ?_
      refine sP rfl rfl rfl (pM rfl rfl) ?_
      refine sG rfl rfl rfl rfl rfl (p_fieldAddr_own rfl rfl fl23_1 ty3 (by decide)) ?_
      refine sG rfl rfl rfl rfl rfl (pLdO1 1 rfl rfl rfl ty3 rfl) ?_
      refine sG rfl rfl rfl rfl rfl (p_fieldAddr_own rfl rfl fl23_0 ty3 (by decide)) ?_
      refine sG rfl rfl rfl rfl rfl (pLdO1 1 rfl rfl rfl ty3 rfl) ?_
      refine sG rfl rfl rfl rfl rfl (p_indexAddr_arr rfl rfl Try.underlying53 ty3 rfl (i := d.1.toNat) (by have := (chk_iff d).1 e1; omega) (by have := (chk_iff d).1 e1; omega)) ?_
      refine sG rfl rfl rfl rfl rfl (pLdO1 0 rfl rfl rfl ty3 (iL_at0 (vget_at hv ((chk_iff d).1 e1).1 ((chk_iff d).1 e1).2.1))) ?_
      refine sG rfl rfl rfl rfl rfl (p_icmp rfl rfl rfl (leqq_f e2)) ?_
      refine sP rfl rfl rfl (p_pick rfl rfl rfl) ?_
      refine sP rfl rfl rfl (pA rfl rfl) ?_
      refine lTail ?_
      refine lNil ?_
      exact ⟨_, [], _, ⟨_, (by exact hbv.symm), rfl, rfl⟩, ⟨rfl, rfl, trivial⟩, rfl⟩
  · rintro L h ⟨b, hb, rfl, rfl⟩
    refine wRet ?_
    exact rgs1 (rg_tmp (gives_sub (Sub.of_eq (avB hb))))
set_option maxRecDepth 100000 in
theorem vput_p (v : List Int) (hv : v.length = 16) : PFn Try.prog False 92 [vA v] (.tup [sA (vputS v), iA (vE v)]) := by
  refine pfn Try.func92 rfl (by kernel_rfl) 29 rfl _ rfl (Nat.le_of_ble_eq_true rfl) (fun X w0 => ?_)
  refine wSeq ?_
  refine wReg ?_
  refine sBox rfl rfl rfl rfl rfl (fun g1 => ?_)
  refine sP rfl rfl rfl (pA rfl rfl) ?_
  refine sP rfl rfl rfl (pA rfl rfl) ?_
  refine lNil ?_
  refine wSeq ?_
  refine wSeq ?_
  refine wReg ?_
  refine sP rfl rfl rfl (pLdW 0 rfl rfl rfl ty53 (iL_len hv)) ?_
  refine sP rfl rfl rfl (p_call rfl (vcheck_p v hv) ⟨Sub.refl, trivial⟩) ?_
  refine sP rfl rfl rfl (pA rfl rfl) ?_
  refine lNil ?_
  refine wSeq ?_
  refine wReg ?_
  refine sP rfl rfl rfl (pM rfl rfl) ?_
  refine sP rfl rfl rfl (p_icmp rfl rfl rfl rfl) ?_
  refine lNil ?_
  refine wCond rfl (fun hc1 => ?_) (fun hc1 => ?_)
  · refine wSeq ?_
    refine wReg ?_
    refine sP rfl rfl rfl (pM rfl rfl) ?_
    refine sP rfl rfl rfl (pA rfl rfl) ?_
    refine sP rfl rfl rfl (pA rfl rfl) ?_
    refine lNil ?_
    refine wRet ?_
    have h : vE v ≠ 0 := by simpa using hc1
    exact rgs2 (rg_tmp (gives_sub (Sub.of_eq (avS (vputS_err h).symm)))) (rg_tmp (gives_sub Sub.refl))
  · have hz : vE v = 0 := by simpa using hc1
    refine wSkip ?_
    refine wSeq ?_
    refine wReg ?_
    refine sP rfl rfl rfl (pA rfl rfl) ?_
    refine lNil ?_
    refine wSeq ?_
    refine wSeq ?_
    refine wReg ?_
    refine sP rfl rfl rfl (pLdW 0 rfl rfl rfl ty53 (iL_len hv)) ?_
    refine sP rfl rfl rfl (pM rfl rfl) ?_
    refine lNil ?_
    refine wBlock ?_
    refine wLoop (fun mm L h => ∃ i s, mm = 16 - i ∧ i ≤ 16 ∧ s = cat ((v.take i).map numS) ∧ L = [(5, sA s), (15, vA v), (16, iA (i : Nat))] ∧ h = []) ⟨_, _, _, _, ⟨0, _, rfl, Nat.zero_le _, rfl, rfl, rfl⟩, ⟨rfl, rfl, rfl, trivial⟩, rfl⟩ ?_
    rintro mm L h ⟨i, s, rfl, hi, hs, rfl, rfl⟩
    refine wSeq ?_
    refine wReg ?_
    refine sP rfl rfl rfl (p_icmp rfl rfl rfl rfl) ?_
    refine lNil ?_
    refine wSeq ?_
    refine wCond rfl (fun hc2 => ?_) (fun hc2 => ?_)
    · have hi16 : i < 16 := by have h := hc2; simp at h; omega
      obtain ⟨x, hx⟩ : ∃ x, v[i]? = some x := getL (by omega)
      have hsz : s.size ≤ 128 := by rw [hs]; exact nums16 v hv i
      have hnz := numS_size x
      refine wSkip ?_
      refine wSeq ?_
      refine wBlock ?_
      refine wSeq ?_
      refine wReg ?_
      refine sP rfl rfl rfl (p_index_arr rfl rfl Try.underlying53 ty3 rfl (i := i) rfl hi16 (.inr ⟨rfl, iL_at hx⟩)) ?_
      refine sP rfl rfl rfl (pA rfl rfl) ?_
      refine lNil ?_
      refine wSeq ?_
      refine wReg ?_
      refine sP rfl rfl rfl (pM rfl rfl) ?_
      refine sP rfl rfl rfl (p_call rfl (num_p x) ⟨Sub.refl, trivial⟩) ?_
      refine sP rfl rfl rfl (pMt rfl rfl) ?_
      refine sP rfl rfl rfl (p_extract rfl rfl rfl) ?_
      refine sP rfl rfl rfl (p_extract rfl rfl rfl) ?_
      refine sP rfl rfl rfl (pA rfl rfl) ?_
      refine sP rfl rfl rfl (pA rfl rfl) ?_
      refine lNil ?_
      refine wReg ?_
      refine sP rfl rfl rfl (pM rfl rfl) ?_
      refine sP rfl rfl rfl (pM rfl rfl) ?_
      refine sP rfl rfl rfl (p_sadd rfl rfl rfl (by omega)) ?_
      refine sP rfl rfl rfl (pA rfl rfl) ?_
      refine lNil ?_
      refine wReg ?_
      refine sP rfl rfl rfl (p_iar rfl rfl rfl rfl) ?_
      refine sP rfl rfl rfl (pM rfl rfl) ?_
      refine lNil ?_
      refine ⟨_, _, [], [], ?_, ⟨i + 1, _, rfl, hi16, ?_, rfl, rfl⟩, ⟨rfl, rfl, avI (wrapI (by omega) (by omega)), trivial⟩, rfl⟩
      · omega
      · rw [hs]; exact cat_take0 numS hx
    · have hge : i = 16 := by have h := hc2; simp at h; omega
      subst hge
      refine wExit ?_
      refine wSeq ?_
      refine wReg ?_
      refine sP rfl rfl rfl (pM rfl rfl) ?_
      refine sP rfl rfl rfl (pA rfl rfl) ?_
      refine sP rfl rfl rfl (pA rfl rfl) ?_
      refine lNil ?_
      refine wRet ?_
      have hS : s = vputS v := by rw [vputS_ok hz, hs, List.take_of_length_le (by omega)]
      exact rgs2 (rg_tmp (gives_sub (Sub.of_eq (avS hS)))) (rg_tmp (gives_sub (Sub.of_eq (avI hz.symm))))
end Go.Proofs.Ytmhkalalcmkpbaa

namespace Go.Proofs.Ytmhkalalcmkpbaa
open Go Go.RowKit
set_option linter.unusedVariables false
set_option linter.unusedSimpArgs false

def vpad (st : ByteArray × Int) (i : Nat) : List Int := (rdV i st).1 ++ List.replicate (16 - i) 0
theorem vpad_len (st : ByteArray × Int) {i : Nat} (h : i ≤ 16) : (vpad st i).length = 16 := by unfold vpad; rw [List.length_append, rdV_len, List.length_replicate]; omega
theorem vpad_set (st : ByteArray × Int) {i : Nat} (h : i < 16) : (vpad st i).set i ((rdN (rdV i st).2).1 : Int) = vpad st (i + 1) := by
  unfold vpad
  have hl := rdV_len i st
  rw [List.set_append_right _ _ (by omega), hl, Nat.sub_self, show 16 - i = (16 - (i + 1)) + 1 by omega, List.replicate_succ, List.set_cons_zero]
  show _ = ((rdV i st).1 ++ [_]) ++ _
  rw [List.append_assoc]; rfl
theorem vpad_all (st : ByteArray × Int) : vpad st 16 = (rdV 16 st).1 := by unfold vpad; rw [Nat.sub_self, List.replicate_zero, List.append_nil]

set_option maxRecDepth 100000 in
theorem rvcheck_p (v : List Int) (hv : v.length = 16) : PFn Try.prog False 97 [vA v] (iA (vE v)) := by
  refine pfn Try.func97 rfl (by kernel_rfl) 18 rfl _ rfl (Nat.le_of_ble_eq_true rfl) (fun X w0 => ?_)
  refine wSeq ?_
  refine wReg ?_
  refine sBox rfl rfl rfl rfl rfl (fun g1 => ?_)
  refine sP rfl rfl rfl (pA rfl rfl) ?_
  refine lNil ?_
  refine wSeq ?_
  refine wSeq ?_
  refine wReg ?_
  refine sP rfl rfl rfl (pA rfl rfl) ?_
  refine lNil ?_
  refine wBlock ?_
  refine wLoop (fun mm L h => ∃ i, mm = 16 - i ∧ i ≤ 16 ∧ (∀ j y, j < i → v[j]? = some y → vOk y = true) ∧ L = [(1, .x (.pointer (some ⟨g1, 0, none⟩))), (3, iA (i : Nat))] ∧ h = [.cells g1 53 (iL v)]) ⟨_, _, _, _, ⟨0, rfl, Nat.zero_le _, fun j y hj => absurd hj (by omega), rfl, rfl⟩, ⟨rfl, rfl, trivial⟩, rfl⟩ ?_
  rintro mm L h ⟨i, rfl, hi, h0, rfl, rfl⟩
  refine wSeq ?_
  refine wSeq ?_
  refine wReg ?_
  refine sP rfl rfl rfl (pM rfl rfl) ?_
  refine sP rfl rfl rfl (p_icmp rfl rfl rfl rfl) ?_
  refine lNil ?_
  refine wCond rfl (fun hc1 => ?_) (fun hc1 => ?_)
  · have hi16 : i < 16 := by have h := hc1; simp at h; omega
    obtain ⟨x, hx⟩ : ∃ x, v[i]? = some x := getL (by omega)
    refine wSkip ?_
    refine wSeq ?_
    refine wBlock ?_
    refine wCut (fun L h => ∃ b : Bool, b = (badN x) ∧ L = [(1, .x (.pointer (some ⟨g1, 0, none⟩))), (3, iA (i : Nat)), (17, bA b)] ∧ h = [.cells g1 53 (iL v)]) ?_ ?_
    · cases hb : (decide (x < 0)) with
      | true =>
        refine wReg ?_
        refine sP rfl rfl rfl (pM rfl rfl) ?_
        refine sP rfl rfl rfl (p_indexAddr_arr rfl rfl Try.underlying53 ty3 rfl (i := i) rfl hi16) ?_
        refine sP rfl rfl rfl (pLdO1 0 rfl rfl rfl ty3 (iL_at0 hx)) ?_
        refine sP rfl rfl rfl (p_icmp rfl rfl rfl (congrArg some hb)) ?_
        refine sP rfl rfl rfl (pM rfl rfl) ?_
        refine sU rfl rfl rfl (by decide) rfl rfl ?_
        refine sU rfl rfl rfl (by decide) rfl rfl ?_
        refine sU rfl rfl rfl (by decide) rfl rfl ?_
        refine sU rfl rfl rfl (by decide) rfl rfl ?_
        refine sP rfl rfl rfl (p_pick rfl rfl rfl) ?_
        refine lNil ?_
        exact ⟨_, [.cells g1 53 (iL v)], [], ⟨_, (by exact (by unfold badN; rw [hb]; rfl)), rfl, rfl⟩, ⟨rfl, rfl, rfl, trivial⟩, rfl⟩
      | false =>
        refine wReg ?_
        refine sP rfl rfl rfl (pM rfl rfl) ?_
        refine sP rfl rfl rfl (p_indexAddr_arr rfl rfl Try.underlying53 ty3 rfl (i := i) rfl hi16) ?_
        refine sP rfl rfl rfl (pLdO1 0 rfl rfl rfl ty3 (iL_at0 hx)) ?_
        refine sP rfl rfl rfl (p_icmp rfl rfl rfl (congrArg some hb)) ?_
        refine sP rfl rfl rfl (pM rfl rfl) ?_
        refine sG rfl rfl rfl rfl rfl (pM rfl rfl) ?_
        refine sG rfl rfl rfl rfl rfl (p_indexAddr_arr rfl rfl Try.underlying53 ty3 rfl (i := i) rfl hi16) ?_
        refine sG rfl rfl rfl rfl rfl (pLdO1 0 rfl rfl rfl ty3 (iL_at0 hx)) ?_
        refine sG rfl rfl rfl rfl rfl (p_icmp rfl rfl rfl rfl) ?_
        refine sP rfl rfl rfl (p_pick rfl rfl rfl) ?_
        refine lNil ?_
        exact ⟨_, [.cells g1 53 (iL v)], [], ⟨_, (by exact (by unfold badN; rw [hb]; rfl)), rfl, rfl⟩, ⟨rfl, rfl, rfl, trivial⟩, rfl⟩
    · rintro L h ⟨b, hb, rfl, rfl⟩
      refine wCond rfl (fun hc2 => ?_) (fun hc2 => ?_)
      · refine wSeq ?_
        refine wReg ?_
        refine sP rfl rfl rfl (pA rfl rfl) ?_
        refine lNil ?_
        refine wRet ?_
        exact rgs1 (rg_tmp (gives_sub (Sub.of_eq (avI (vE_bad hx (hb.symm.trans hc2)).symm))))
      · refine wSkip ?_
        refine wReg ?_
        refine sP rfl rfl rfl (pM rfl rfl) ?_
        refine sP rfl rfl rfl (p_iar rfl rfl rfl rfl) ?_
        refine sP rfl rfl rfl (pA rfl rfl) ?_
        refine lNil ?_
        have hok := badN_ok (hb.symm.trans hc2)
        refine ⟨_, _, [.cells g1 53 (iL v)], [], ?_, ⟨i + 1, rfl, hi16, fun j y hj hy => ?_, rfl, rfl⟩, ⟨rfl, avI (wrapI (by omega) (by omega)), trivial⟩, rfl⟩
        · omega
        · rcases Nat.lt_or_ge j i with h | h
          · exact h0 j y h hy
          · obtain rfl : j = i := by omega
            rw [hx] at hy; injection hy with hy; rw [← hy]; exact hok
  · have hge : i = 16 := by have h := hc1; simp at h; omega
    subst hge
    refine wExit ?_
    refine wSeq ?_
    refine wReg ?_
    refine sP rfl rfl rfl (pA rfl rfl) ?_
    refine lNil ?_
    refine wRet ?_
    exact rgs1 (rg_tmp (gives_sub (Sub.of_eq (avI (vE_all fun j y hy => h0 j y (by have := (List.getElem?_eq_some_iff.1 hy).1; omega) hy).symm))))
set_option maxRecDepth 100000 in
theorem rvjoin_p (a b : List Int) (ha : a.length = 16) (hb : b.length = 16) : PFn Try.prog False 122 [vA a, vA b] (vA (vmax a b)) := by
  refine pfn Try.func122 rfl (by kernel_rfl) 20 rfl _ rfl (Nat.le_of_ble_eq_true rfl) (fun X w0 => ?_)
  refine wSeq ?_
  refine wReg ?_
  refine sBox rfl rfl rfl rfl rfl (fun g2 => ?_)
  refine sBox rfl rfl rfl rfl rfl (fun g3 => ?_)
  refine sAlloc rfl rfl rfl rfl ze53 (fun g4 => ?_)
  refine lNil ?_
  refine wSeq ?_
  refine wSeq ?_
  refine wReg ?_
  refine sP rfl rfl rfl (pA rfl rfl) ?_
  refine lNil ?_
  refine wBlock ?_
  refine wLoop (fun mm L h => ∃ i, mm = 16 - i ∧ i ≤ 16 ∧ L = [(2, .x (.pointer (some ⟨g2, 0, none⟩))), (3, .x (.pointer (some ⟨g3, 0, none⟩))), (4, .x (.pointer (some ⟨g4, 0, none⟩))), (5, iA (i : Nat))] ∧ h = [.cells g2 53 (iL (vTo max a b i)), .cells g3 53 (iL b), .cells g4 53 (iL zeroV)]) ⟨_, _, [.cells g2 53 (iL a), .cells g3 53 (iL b), .cells g4 53 (iL zeroV)], _, ⟨0, rfl, Nat.zero_le _, rfl, by rw [vTo_zero]⟩, ⟨rfl, rfl, rfl, rfl, trivial⟩, rfl⟩ ?_
  rintro mm L h ⟨i, rfl, hi, rfl, rfl⟩
  refine wSeq ?_
  refine wSeq ?_
  refine wReg ?_
  refine sP rfl rfl rfl (pM rfl rfl) ?_
  refine sP rfl rfl rfl (p_icmp rfl rfl rfl rfl) ?_
  refine lNil ?_
  refine wCond rfl (fun hc1 => ?_) (fun hc1 => ?_)
  · have hi16 : i < 16 := by have h := hc1; simp at h; omega
    obtain ⟨x, hx⟩ : ∃ x, a[i]? = some x := getL (by omega)
    obtain ⟨y, hy⟩ : ∃ y, b[i]? = some y := getL (by omega)
    refine wSkip ?_
    refine wSeq ?_
    refine wBlock ?_
    refine wDraw 9 (by kernel_rfl) (by kernel_rfl) ?_
    refine sP rfl rfl rfl (pM rfl rfl) ?_
    refine sP rfl rfl rfl (pM rfl rfl) ?_
    refine sP rfl rfl rfl (p_indexAddr_arr rfl rfl Try.underlying53 ty3 rfl (i := i) rfl hi16) ?_
    refine sP rfl rfl rfl (pLdO1 0 rfl rfl rfl ty3 (iL_at0 (vTo_at ha hb hi16 hx))) ?_
    refine sP rfl rfl rfl (pM rfl rfl) ?_
    refine sP rfl rfl rfl (p_indexAddr_arr rfl rfl Try.underlying53 ty3 rfl (i := i) rfl hi16) ?_
    refine sP rfl rfl rfl (pLdO1 1 rfl rfl rfl ty3 (iL_at0 hy)) ?_
    refine sP rfl rfl rfl (p_max rfl rfl rfl) ?_
    refine sP rfl rfl rfl (p_indexAddr_arr rfl rfl Try.underlying53 ty3 rfl (i := i) rfl hi16) ?_
    refine lTail ?_
    refine sStore1 0 rfl rfl rfl rfl rfl ty3 rfl rfl (by rw [iL_len (vTo_len ha hb hi)]; omega) ?_
    refine lNil ?_
    refine wReg ?_
    refine sP rfl rfl rfl (pM rfl rfl) ?_
    refine sP rfl rfl rfl (p_iar rfl rfl rfl rfl) ?_
    refine sP rfl rfl rfl (pA rfl rfl) ?_
    refine lNil ?_
    refine ⟨_, _, [.cells g2 53 (iL (vTo max a b (i + 1))), .cells g3 53 (iL b), .cells g4 53 (iL zeroV)], [], ?_, ⟨i + 1, rfl, hi16, rfl, rfl⟩, ⟨rfl, rfl, rfl, avI (wrapI (by omega) (by omega)), trivial⟩, ?_⟩
    · omega
    · show [HObj.cells g2 _ ((iL (vTo max a b i)).set (0 + i * 1) (iA (max x y))), _, _] = _
      rw [iL_set, vTo_set ha hb hi16 hx hy]
      rfl
  · have hge : i = 16 := by have h := hc1; simp at h; omega
    subst hge
    refine wExit ?_
    refine wSeq ?_
    refine wReg ?_
    refine sP rfl rfl rfl (pLdW 0 rfl rfl rfl ty53 (iL_len (vTo_len ha hb (Nat.le_refl _)))) ?_
    refine sStore 2 rfl rfl rfl rfl rfl ty53 rfl (ones_ints _) (iL_len (vTo_len ha hb (Nat.le_refl _))) (Nat.le_of_ble_eq_true rfl) ?_
    refine lNil ?_
    refine wRet ?_
    have hsp : spl (iL zeroV) 0 (iL (vTo max a b 16)) = iL (vmax a b) := by
      rw [spl_whole (by rw [iL_len zeroV_len, iL_len (vTo_len ha hb (Nat.le_refl _))]), vTo_all ha hb]
      rfl
    exact rgs1 (rg_cell rfl (List.mem_of_getElem? (i := 2) rfl) ty53 (.inl ⟨rfl, by rw [hsp, iL_len (vmax_len ha hb)]; exact Nat.le_refl _, rfl⟩) (gives_sub (Sub.of_eq (by rw [hsp, List.take_of_length_le (by rw [iL_len (vmax_len ha hb)]; exact Nat.le_refl _)]))))
set_option maxRecDepth 100000 in
theorem rvhas_p (v : List Int) (d : Int × Int) (hv : v.length = 16) : PFn Try.prog False 119 [vA v, dA d] (bA (vhas v d)) := by
  refine pfn Try.func119 rfl (by kernel_rfl) 17 rfl _ rfl (Nat.le_of_ble_eq_true rfl) (fun X w0 => ?_)
  refine wSeq ?_
  refine wReg ?_
  refine sBox rfl rfl rfl rfl rfl (fun g2 => ?_)
  refine sBox rfl rfl rfl rfl rfl (fun g3 => ?_)
  refine sP rfl rfl rfl (pA rfl rfl) ?_
  refine lNil ?_
  refine wCut (fun L h => ∃ b : Bool, b = (vhas v d) ∧ L = [(2, .x (.pointer (some ⟨g2, 0, none⟩))), (4, bA b)] ∧ h = []) ?_ ?_
  · rcases has_cases v d with ⟨e1, hbv⟩ | ⟨e1, e2, hbv⟩ | ⟨e1, e2, hbv⟩
    · refine wDraw 13 (by kernel_rfl) (by kernel_rfl) ?_
      refine sP rfl rfl rfl (pLdW 1 rfl rfl rfl ty23 rfl) ?_
      refine sP rfl rfl rfl (p_call rfl (rdcheck_p d) ⟨Sub.refl, trivial⟩) ?_
      refine sP rfl rfl rfl (p_icmp rfl rfl rfl (eql0_f e1)) ?_
      refine sP rfl rfl rfl (pM rfl rfl) ?_
      refine sUx rfl rfl rfl (by decide) rfl rfl ?_
      refine sUx rfl rfl rfl (by decide) rfl rfl ?_
      refine sUx rfl rfl rfl (by decide) rfl rfl ?_
      refine sUx rfl rfl rfl (by decide) rfl rfl ?_
      refine sUx rfl rfl rfl (by decide) rfl rfl ?_
      refine sUx rfl rfl rfl (by decide) rfl rfl ?_
      refine sUx rfl rfl rfl (by decide) rfl rfl ?_
      refine sP rfl rfl rfl (p_pick rfl rfl rfl) ?_
      refine sP rfl rfl rfl (pA rfl rfl) ?_
      refine lTail ?_
      refine lNil ?_
      exact ⟨_, [], _, ⟨_, (by exact hbv.symm), rfl, rfl⟩, ⟨rfl, rfl, trivial⟩, rfl⟩
    · refine wDraw 13 (by kernel_rfl) (by kernel_rfl) ?_
      refine sP rfl rfl rfl (pLdW 1 rfl rfl rfl ty23 rfl) ?_
      refine sP rfl rfl rfl (p_call rfl (rdcheck_p d) ⟨Sub.refl, trivial⟩) ?_
      refine sP rfl rfl rfl (p_icmp rfl rfl rfl (eql0_t e1)) ?_
      refine sP rfl rfl rfl (pM rfl rfl) ?_
      refine sG rfl rfl rfl rfl rfl (p_fieldAddr_own rfl rfl fl23_1 ty3 (by decide)) ?_
      refine sG rfl rfl rfl rfl rfl (pLdO1 1 rfl rfl rfl ty3 rfl) ?_
      refine sG rfl rfl rfl rfl rfl (p_fieldAddr_own rfl rfl fl23_0 ty3 (by decide)) ?_
      refine sG rfl rfl rfl rfl rfl (pLdO1 1 rfl rfl rfl ty3 rfl) ?_
      refine sG rfl rfl rfl rfl rfl (p_indexAddr_arr rfl rfl Try.underlying53 ty3 rfl (i := d.1.toNat) (by have := (chk_iff d).1 e1; omega) (by have := (chk_iff d).1 e1; omega)) ?_
      refine sG rfl rfl rfl rfl rfl (pLdO1 0 rfl rfl rfl ty3 (iL_at0 (vget_at hv ((chk_iff d).1 e1).1 ((chk_iff d).1 e1).2.1))) ?_
      refine sG rfl rfl rfl rfl rfl (p_icmp rfl rfl rfl (leqq_t e2)) ?_
      refine sP rfl rfl rfl (p_pick rfl rfl rfl) ?_
      refine sP rfl rfl rfl (pA rfl rfl) ?_
      refine lTail ?_
      refine lNil ?_
      exact ⟨_, [], _, ⟨_, (by exact hbv.symm), rfl, rfl⟩, ⟨rfl, rfl, trivial⟩, rfl⟩
    · refine wDraw 13 (by kernel_rfl) (by kernel_rfl) ?_
      refine sP rfl rfl rfl (pLdW 1 rfl rfl rfl ty23 rfl) ?_
      refine sP rfl rfl rfl (p_call rfl (rdcheck_p d) ⟨Sub.refl, trivial⟩) ?_
      refine sP rfl rfl rfl (p_icmp rfl rfl rfl (eql0_t e1)) ?_
      refine sP rfl rfl rfl (pM rfl rfl) ?_
      refine sG rfl rfl rfl rfl rfl (p_fieldAddr_own rfl rfl fl23_1 ty3 (by decide)) ?_
      refine sG rfl rfl rfl rfl rfl (pLdO1 1 rfl rfl rfl ty3 rfl) ?_
      refine sG rfl rfl rfl rfl rfl (p_fieldAddr_own rfl rfl fl23_0 ty3 (by decide)) ?_
      refine sG rfl rfl rfl rfl rfl (pLdO1 1 rfl rfl rfl ty3 rfl) ?_
      refine sG rfl rfl rfl rfl rfl (p_indexAddr_arr rfl rfl Try.underlying53 ty3 rfl (i := d.1.toNat) (by have := (chk_iff d).1 e1; omega) (by have := (chk_iff d).1 e1; omega)) ?_
      refine sG rfl rfl rfl rfl rfl (pLdO1 0 rfl rfl rfl ty3 (iL_at0 (vget_at hv ((chk_iff d).1 e1).1 ((chk_iff d).1 e1).2.1))) ?_
      refine sG rfl rfl rfl rfl rfl (p_icmp rfl rfl rfl (leqq_f e2)) ?_
      refine sP rfl rfl rfl (p_pick rfl rfl rfl) ?_
      refine sP rfl rfl rfl (pA rfl rfl) ?_
      refine lTail ?_
      refine lNil ?_
      exact ⟨_, [], _, ⟨_, (by exact hbv.symm), rfl, rfl⟩, ⟨rfl, rfl, trivial⟩, rfl⟩
  · rintro L h ⟨b, hb, rfl, rfl⟩
    refine wRet ?_
    exact rgs1 (rg_tmp (gives_sub (Sub.of_eq (avB hb))))
set_option maxRecDepth 100000 in
theorem rvput_p (v : List Int) (hv : v.length = 16) : PFn Try.prog False 93 [vA v] (.tup [sA (vputS v), iA (vE v)]) := by
  refine pfn Try.func93 rfl (by kernel_rfl) 29 rfl _ rfl (Nat.le_of_ble_eq_true rfl) (fun X w0 => ?_)
  refine wSeq ?_
  refine wReg ?_
  refine sBox rfl rfl rfl rfl rfl (fun g1 => ?_)
  refine sP rfl rfl rfl (pA rfl rfl) ?_
  refine sP rfl rfl rfl (pA rfl rfl) ?_
  refine lNil ?_
  refine wSeq ?_
  refine wSeq ?_
  refine wReg ?_
  refine sP rfl rfl rfl (pLdW 0 rfl rfl rfl ty53 (iL_len hv)) ?_
  refine sP rfl rfl rfl (p_call rfl (rvcheck_p v hv) ⟨Sub.refl, trivial⟩) ?_
  refine sP rfl rfl rfl (pA rfl rfl) ?_
  refine lNil ?_
  refine wSeq ?_
  refine wReg ?_
  refine sP rfl rfl rfl (pM rfl rfl) ?_
  refine sP rfl rfl rfl (p_icmp rfl rfl rfl rfl) ?_
  refine lNil ?_
  refine wCond rfl (fun hc1 => ?_) (fun hc1 => ?_)
  · refine wSeq ?_
    refine wReg ?_
    refine sP rfl rfl rfl (pM rfl rfl) ?_
    refine sP rfl rfl rfl (pA rfl rfl) ?_
    refine sP rfl rfl rfl (pA rfl rfl) ?_
    refine lNil ?_
    refine wRet ?_
    have h : vE v ≠ 0 := by simpa using hc1
    exact rgs2 (rg_tmp (gives_sub (Sub.of_eq (avS (vputS_err h).symm)))) (rg_tmp (gives_sub Sub.refl))
  · have hz : vE v = 0 := by simpa using hc1
    refine wSkip ?_
    refine wSeq ?_
    refine wReg ?_
    refine sP rfl rfl rfl (pA rfl rfl) ?_
    refine lNil ?_
    refine wSeq ?_
    refine wSeq ?_
    refine wReg ?_
    refine sP rfl rfl rfl (pA rfl rfl) ?_
    refine lNil ?_
    refine wBlock ?_
    refine wLoop (fun mm L h => ∃ i s, mm = 16 - i ∧ i ≤ 16 ∧ s = cat ((v.take i).map numS) ∧ L = [(1, .x (.pointer (some ⟨g1, 0, none⟩))), (5, sA s), (6, iA (i : Nat))] ∧ h = [.cells g1 53 (iL v)]) ⟨_, _, _, _, ⟨0, _, rfl, Nat.zero_le _, rfl, rfl, rfl⟩, ⟨rfl, rfl, rfl, trivial⟩, rfl⟩ ?_
    rintro mm L h ⟨i, s, rfl, hi, hs, rfl, rfl⟩
    refine wSeq ?_
    refine wSeq ?_
    refine wReg ?_
    refine sP rfl rfl rfl (pM rfl rfl) ?_
    refine sP rfl rfl rfl (p_icmp rfl rfl rfl rfl) ?_
    refine lNil ?_
    refine wCond rfl (fun hc2 => ?_) (fun hc2 => ?_)
    · have hi16 : i < 16 := by have h := hc2; simp at h; omega
      obtain ⟨x, hx⟩ : ∃ x, v[i]? = some x := getL (by omega)
      have hsz : s.size ≤ 128 := by rw [hs]; exact nums16 v hv i
      have hnz := numS_size x
      refine wSkip ?_
      refine wSeq ?_
      refine wBlock ?_
      refine wSeq ?_
      refine wReg ?_
      refine sP rfl rfl rfl (pM rfl rfl) ?_
      refine sP rfl rfl rfl (p_indexAddr_arr rfl rfl Try.underlying53 ty3 rfl (i := i) rfl hi16) ?_
      refine sP rfl rfl rfl (pLdO1 0 rfl rfl rfl ty3 (iL_at0 hx)) ?_
      refine sP rfl rfl rfl (p_call rfl (rnum_p x) ⟨Sub.refl, trivial⟩) ?_
      refine sP rfl rfl rfl (pMt rfl rfl) ?_
      refine sP rfl rfl rfl (p_extract rfl rfl rfl) ?_
      refine sP rfl rfl rfl (p_extract rfl rfl rfl) ?_
      refine sP rfl rfl rfl (pA rfl rfl) ?_
      refine sP rfl rfl rfl (pA rfl rfl) ?_
      refine lNil ?_
      refine wReg ?_
      refine sP rfl rfl rfl (pM rfl rfl) ?_
      refine sP rfl rfl rfl (pM rfl rfl) ?_
      refine sP rfl rfl rfl (p_sadd rfl rfl rfl (by omega)) ?_
      refine sP rfl rfl rfl (pA rfl rfl) ?_
      refine lNil ?_
      refine wReg ?_
      refine sP rfl rfl rfl (pM rfl rfl) ?_
      refine sP rfl rfl rfl (p_iar rfl rfl rfl rfl) ?_
      refine sP rfl rfl rfl (pA rfl rfl) ?_
      refine lNil ?_
      refine ⟨_, _, [.cells g1 53 (iL v)], [], ?_, ⟨i + 1, _, rfl, hi16, ?_, rfl, rfl⟩, ⟨rfl, rfl, avI (wrapI (by omega) (by omega)), trivial⟩, rfl⟩
      · omega
      · rw [hs]; exact cat_take0 numS hx
    · have hge : i = 16 := by have h := hc2; simp at h; omega
      subst hge
      refine wExit ?_
      refine wSeq ?_
      refine wReg ?_
      refine sP rfl rfl rfl (pM rfl rfl) ?_
      refine sP rfl rfl rfl (pA rfl rfl) ?_
      refine sP rfl rfl rfl (pA rfl rfl) ?_
      refine lNil ?_
      refine wRet ?_
      have hS : s = vputS v := by rw [vputS_ok hz, hs, List.take_of_length_le (by omega)]
      exact rgs2 (rg_tmp (gives_sub (Sub.of_eq (avS hS)))) (rg_tmp (gives_sub (Sub.of_eq (avI hz.symm))))
set_option maxRecDepth 100000 in
theorem rvtake_p (st : ByteArray × Int) (hs : st.1.size < 9223372036854775807) : PFn Try.prog False 96 [rA st] (.tup [rA (rdV 16 st).2, vA (rdV 16 st).1]) := by
  refine pfn Try.func96 rfl (by kernel_rfl) 23 rfl _ rfl (Nat.le_of_ble_eq_true rfl) (fun X w0 => ?_)
  refine wSeq ?_
  refine wReg ?_
  refine sBox rfl rfl rfl rfl rfl (fun g1 => ?_)
  refine sAlloc rfl rfl rfl rfl ze127 (fun g2 => ?_)
  refine sAlloc rfl rfl rfl rfl ze53 (fun g3 => ?_)
  refine lNil ?_
  refine wSeq ?_
  refine wReg ?_
  refine sAlloc rfl rfl rfl rfl ze53 (fun g4 => ?_)
  refine lNil ?_
  refine wSeq ?_
  refine wSeq ?_
  refine wReg ?_
  refine sP rfl rfl rfl (pA rfl rfl) ?_
  refine lNil ?_
  refine wBlock ?_
  refine wLoop (fun mm L h => ∃ i, mm = 16 - i ∧ i ≤ 16 ∧ L = [(1, .x (.pointer (some ⟨g1, 0, none⟩))), (2, .x (.pointer (some ⟨g2, 0, none⟩))), (3, .x (.pointer (some ⟨g3, 0, none⟩))), (4, .x (.pointer (some ⟨g4, 0, none⟩))), (5, iA (i : Nat))] ∧ h = [.cells g1 127 [sA (rdV i st).2.1, iA (rdV i st).2.2], .cells g2 127 [sA ⟨#[]⟩, iA 0], .cells g3 53 (iL zeroV), .cells g4 53 (iL (vpad st i))]) ⟨_, _, [.cells g1 127 [sA (rdV 0 st).2.1, iA (rdV 0 st).2.2], .cells g2 127 [sA ⟨#[]⟩, iA 0], .cells g3 53 (iL zeroV), .cells g4 53 (iL (vpad st 0))], _, ⟨0, rfl, Nat.zero_le _, rfl, rfl⟩, ⟨rfl, rfl, rfl, rfl, rfl, trivial⟩, rfl⟩ ?_
  rintro mm L h ⟨i, rfl, hi, rfl, rfl⟩
  refine wSeq ?_
  refine wSeq ?_
  refine wReg ?_
  refine sP rfl rfl rfl (pM rfl rfl) ?_
  refine sP rfl rfl rfl (p_icmp rfl rfl rfl rfl) ?_
  refine lNil ?_
  refine wCond rfl (fun hc1 => ?_) (fun hc1 => ?_)
  · have hi16 : i < 16 := by have h := hc1; simp at h; omega
    refine wSkip ?_
    refine wSeq ?_
    refine wBlock ?_
    refine wSeq ?_
    refine wReg ?_
    refine sP rfl rfl rfl (pLdW 0 rfl rfl rfl ty127 rfl) ?_
    refine sP rfl rfl rfl (p_call rfl (rrnum_p (rdV i st).2 (Nat.lt_of_le_of_lt (rdV_size i st) hs)) ⟨Sub.refl, trivial⟩) ?_
    refine sP rfl rfl rfl (pMt rfl rfl) ?_
    refine sP rfl rfl rfl (p_extract rfl rfl rfl) ?_
    refine sP rfl rfl rfl (p_extract rfl rfl rfl) ?_
    refine sAlloc rfl rfl rfl rfl ze127 (fun g6 => ?_)
    refine sStore 4 rfl rfl rfl rfl rfl ty127 rfl rfl rfl (Nat.le_of_ble_eq_true rfl) ?_
    refine sP rfl rfl rfl (pA rfl rfl) ?_
    refine lNil ?_
    refine wSeq ?_
    refine wReg ?_
    refine sP rfl rfl rfl (pLdW 4 rfl rfl rfl ty127 rfl) ?_
    refine sStore 0 rfl rfl rfl rfl rfl ty127 rfl rfl rfl (Nat.le_of_ble_eq_true rfl) ?_
    refine lNil ?_
    refine wReg ?_
    refine sP rfl rfl rfl (pM rfl rfl) ?_
    refine sP rfl rfl rfl (pM rfl rfl) ?_
    refine sP rfl rfl rfl (p_indexAddr_arr rfl rfl Try.underlying53 ty3 rfl (i := i) rfl hi16) ?_
    refine sStore1 3 rfl rfl rfl rfl rfl ty3 rfl rfl (by rw [iL_len (vpad_len st hi)]; omega) ?_
    refine lNil ?_
    refine wReg ?_
    refine sP rfl rfl rfl (pM rfl rfl) ?_
    refine sP rfl rfl rfl (p_iar rfl rfl rfl rfl) ?_
    refine sP rfl rfl rfl (pA rfl rfl) ?_
    refine lNil ?_
    refine ⟨_, _, [.cells g1 127 [sA (rdV (i + 1) st).2.1, iA (rdV (i + 1) st).2.2], .cells g2 127 [sA ⟨#[]⟩, iA 0], .cells g3 53 (iL zeroV), .cells g4 53 (iL (vpad st (i + 1)))], [.cells g6 127 [sA (rdV (i + 1) st).2.1, iA (rdV (i + 1) st).2.2]], ?_, ⟨i + 1, rfl, hi16, rfl, rfl⟩, ⟨rfl, rfl, rfl, rfl, avI (wrapI (by omega) (by omega)), trivial⟩, ?_⟩
    · omega
    · show [_, _, _, HObj.cells g4 _ ((iL (vpad st i)).set (0 + i * 1) (iA ((rdN (rdV i st).2).1 : Nat))), _] = _
      rw [iL_set, vpad_set st hi16]
      rfl
  · have hge : i = 16 := by have h := hc1; simp at h; omega
    subst hge
    have hqa := vpad_all st
    have hql := vpad_len st (i := 16) (Nat.le_refl _)
    have hpl := rdV_len 16 st
    generalize vpad st 16 = q at hqa hql ⊢
    generalize rdV 16 st = p at hqa hpl ⊢
    refine wExit ?_
    refine wSeq ?_
    refine wDrawM 4 (by kernel_rfl) (by kernel_rfl) (fun m => [.cells g1 127 [sA p.2.1, iA p.2.2], .cells g2 127 (match m with | 0 => [sA ⟨#[]⟩, iA 0] | _ => [sA p.2.1, iA p.2.2]), .cells g3 53 (match m with | 2 => spl (iL zeroV) 0 (iL q) | _ => iL zeroV), .cells g4 53 (iL q)]) [2, 3] (by kernel_rfl) rfl (fun m _ => rfl) ?_
    refine dwP rfl rfl rfl rfl rfl (fun k al => (pLdW 0 rfl rfl rfl ty127 rfl)) ?_
    refine dwP rfl rfl rfl rfl rfl (fun k al => (pLdW 3 rfl rfl rfl ty53 (iL_len hql))) ?_
    refine dwS 0 rfl rfl rfl rfl (fun al => mstep_storeE 1 rfl rfl rfl ty127 rfl rfl rfl (Nat.le_of_ble_eq_true rfl) rfl) ?_
    refine dwS 1 rfl rfl rfl rfl (fun al => mstep_storeE 2 rfl rfl rfl ty53 rfl (ones_ints _) (iL_len hql) (Nat.le_of_ble_eq_true rfl) rfl) ?_
    refine dwNil ?_
    refine lNil ?_
    refine wRet ?_
    have hsp : spl (iL zeroV) 0 (iL q) = iL p.1 := by
      rw [spl_whole (by rw [iL_len zeroV_len, iL_len hql]), hqa]
    have hl : (iL p.1).length = 16 := iL_len hpl
    exact rgs2 (rg_cell rfl (List.mem_of_getElem? (i := 1) rfl) ty127 (.inl ⟨rfl, Nat.le_refl _, rfl⟩) (gives_sub Sub.refl)) (rg_cell rfl (List.mem_of_getElem? (i := 2) rfl) ty53 (.inl ⟨rfl, by rw [hsp]; show 16 ≤ (iL p.1).length; rw [hl]; exact Nat.le_refl _, rfl⟩) (gives_sub (Sub.of_eq (by rw [hsp]; show AV.agg ((iL p.1).take 16) = _; rw [List.take_of_length_le (by rw [hl]; exact Nat.le_refl _)]))))
end Go.Proofs.Ytmhkalalcmkpbaa
