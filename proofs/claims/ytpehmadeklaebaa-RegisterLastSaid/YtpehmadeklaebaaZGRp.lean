/-
  OrdC GRp
-/
import Derived.Test.YtpehmadeklaebaaZGP
import Derived.Test.YtpehmadeklaebaaZOrd
namespace Go.Proofs.Ytpehmadeklaebaa
set_option linter.unusedVariables false
section
variable {α : Type} [DecidableEq α]
/-- How the row stands while it is made compact: the first kk are what is left of the first i. -/
structure CompG (l m : List α) (i kk : Nat) : Prop where
  size : m.length = l.length
  len : (compact (l.take i)).length = kk
  low : m.take kk = compact (l.take i)
  high : ∀ j, i ≤ j + 1 → m[j]? = l[j]?
  lt : kk < i
omit [DecidableEq α] in
theorem take_at {l : List α} {i : Nat} {x : α} (h : l[i]? = some x) : l.take (i + 1) = l.take i ++ [x] := by rw [List.take_add_one, h]; rfl
omit [DecidableEq α] in
theorem last_at {l : List α} {i : Nat} {y : α} (h0 : 0 < i) (h : l[i - 1]? = some y) : (l.take i).getLast? = some y := by
  obtain ⟨k, rfl⟩ : ∃ k, i = k + 1 := ⟨i - 1, by omega⟩
  rw [take_at (by simpa using h)]; simp
theorem compG_same {l : List α} {i : Nat} {x : α} (h : l[i]? = some x) (h0 : 0 < i) (hy : l[i - 1]? = some x) : compact (l.take (i + 1)) = compact (l.take i) := by
  rw [take_at h, compact_snoc]; unfold cpush
  rw [compact_last, last_at h0 hy, if_pos rfl]
theorem compG_more {l : List α} {i : Nat} {x y : α} (h : l[i]? = some x) (h0 : 0 < i) (hy : l[i - 1]? = some y) (hne : x ≠ y) : compact (l.take (i + 1)) = compact (l.take i) ++ [x] := by
  rw [take_at h, compact_snoc]; unfold cpush
  rw [compact_last, last_at h0 hy, if_neg (by intro e; injection e with e; exact hne e.symm)]
theorem CompG.start {l : List α} {k : Nat} {x : α} (h : l[k]? = some x) (h0 : 0 < k) (hy : l[k - 1]? = some x) (hc : compact (l.take k) = l.take k) : CompG l l (k + 1) k := by
  have e := compG_same h h0 hy
  rw [hc] at e
  have hk := (List.getElem?_eq_some_iff.1 h).1
  exact ⟨rfl, by rw [e, List.length_take]; omega, e.symm, fun _ _ => rfl, by omega⟩
theorem CompG.skip {l m : List α} {i kk : Nat} {x : α} (c : CompG l m i kk) (h : l[i]? = some x) (h0 : 0 < i) (hy : l[i - 1]? = some x) : CompG l m (i + 1) kk := by
  have e := compG_same h h0 hy
  exact ⟨c.size, by rw [e]; exact c.len, by rw [e]; exact c.low, fun j a => c.high j (by omega), by have := c.lt; omega⟩
theorem CompG.keep {l m : List α} {i kk : Nat} {x y : α} (c : CompG l m i kk) (h : l[i]? = some x) (h0 : 0 < i) (hy : l[i - 1]? = some y) (hne : x ≠ y) : CompG l (m.set kk x) (i + 1) (kk + 1) := by
  have e := compG_more h h0 hy hne
  have hlt := c.lt
  have hs := c.size
  have hi := (List.getElem?_eq_some_iff.1 h).1
  refine ⟨by rw [List.length_set]; exact hs, by rw [e]; simp [c.len], ?_, fun j a => ?_, by omega⟩
  · rw [e, take_at (x := x) (by rw [List.getElem?_set, if_pos rfl, if_pos (by omega)]), ← c.low]
    congr 1
    rw [List.take_set_of_le (Nat.le_refl _)]
  · rw [List.getElem?_set, if_neg (by omega)]; exact c.high j (by omega)
theorem CompG.all {l m : List α} {kk : Nat} (c : CompG l m l.length kk) : m.take kk = compact l ∧ kk = (compact l).length := by
  have h1 := c.low
  have h2 := c.len
  rw [List.take_length] at h1 h2
  exact ⟨h1, h2.symm⟩
theorem compact_next {l : List α} {k : Nat} {x y : α} (h : l[k]? = some x) (h0 : 0 < k) (hy : l[k - 1]? = some y) (hne : x ≠ y) (hc : compact (l.take k) = l.take k) : compact (l.take (k + 1)) = l.take (k + 1) := by
  rw [compG_more h h0 hy hne, hc, take_at h]
theorem compact_short {l : List α} (h : l.length < 2) : compact l = l := by
  match l, h with
  | [], _ => rfl
  | [x], _ => rfl
end
end Go.Proofs.Ytpehmadeklaebaa

namespace Go.Proofs.Ytpehmadeklaebaa.V
open Go Go.RowKit
set_option linter.unusedVariables false
set_option linter.unusedSimpArgs false
abbrev KeyT := StampT × DotT × ByteArray
def rkey (f : FactT) : KeyT := (f.2.1, f.1, f.2.2.2.2)
def valR (f : FactT) : ByteArray := f.2.2.2.2
def cK (a b : KeyT) : Int := or2 (byL (sLt a.1 b.1) (sLt b.1 a.1)) (or2 (byL (dLt a.2.1 b.2.1) (dLt b.2.1 a.2.1)) (cmpB a.2.2 b.2.2))
theorem cmpsK : Cmps cK := Cmps.lex (γ := KeyT) (cmps_of_sto stoW) (Cmps.lex (γ := DotT × ByteArray) (cmps_of_sto stoD) cmpsB (fun x => x.1) (fun x => x.2) (fun x y h1 h2 => Prod.ext h1 h2)) (fun x => x.1) (fun x => x.2) (fun x y h1 h2 => Prod.ext h1 h2)
def kLt (a b : KeyT) : Bool := decide (cK a b < 0)
theorem stoK : STO kLt := cmpsK.sto
def ordR (x y : FactT) : Int := orI [byL (sLt x.2.1 y.2.1) (sLt y.2.1 x.2.1), byL (dLt x.1 y.1) (dLt y.1 x.1), cmpB x.2.2.2.2 y.2.2.2.2]
theorem orI3 (a b c : Int) : orI [a, b, c] = or2 a (or2 b c) := by
  simp only [orI, or2]
  by_cases h : c = 0 <;> simp [h]
theorem ordR_eq (x y : FactT) : ordR x y = cK (rkey x) (rkey y) := orI3 _ _ _
def rLt (x y : FactT) : Bool := decide (ordR x y < 0)
theorem rLt_eq (x y : FactT) : rLt x y = kLt (rkey x) (rkey y) := by unfold rLt kLt; rw [ordR_eq]
def latR (a b : FactT) : Bool := if a.2.1 = b.2.1 then (if a.1 = b.1 then lessS b.2.2.2.2 a.2.2.2.2 else dLt b.1 a.1) else sLt b.2.1 a.2.1
theorem byL_zero {p q : Bool} (h : byL p q = 0) : p = false ∧ q = false := by cases p <;> cases q <;> simp [byL] at h ⊢
theorem or2_z {a b : Int} (h : a = 0) : or2 a b = b := if_pos h
theorem or2_n {a b : Int} (h : ¬ a = 0) : or2 a b = a := if_neg h
theorem byL_dec (p q : Bool) : decide (byL p q < 0) = p := by cases p <;> cases q <;> rfl
theorem latR_eq (a b : FactT) : latR a b = rLt b a := by
  have e : rLt b a = decide (or2 (byL (sLt b.2.1 a.2.1) (sLt a.2.1 b.2.1)) (or2 (byL (dLt b.1 a.1) (dLt a.1 b.1)) (byL (lessS b.2.2.2.2 a.2.2.2.2) (lessS a.2.2.2.2 b.2.2.2.2))) < 0) := by
    unfold rLt; rw [ordR_eq]; rfl
  rw [e]
  unfold latR
  by_cases h1 : a.2.1 = b.2.1
  · have z1 : byL (sLt b.2.1 a.2.1) (sLt a.2.1 b.2.1) = 0 := by rw [h1, stoW.irrefl]; rfl
    rw [if_pos h1, or2_z z1]
    by_cases h2 : a.1 = b.1
    · have z2 : byL (dLt b.1 a.1) (dLt a.1 b.1) = 0 := by rw [h2, stoD.irrefl]; rfl
      rw [if_pos h2, or2_z z2, byL_dec]
    · have n2 : ¬ byL (dLt b.1 a.1) (dLt a.1 b.1) = 0 := fun h => by
        obtain ⟨p, q⟩ := byL_zero h
        exact h2 (stoD.total _ _ q p)
      rw [if_neg h2, or2_n n2, byL_dec]
  · have n1 : ¬ byL (sLt b.2.1 a.2.1) (sLt a.2.1 b.2.1) = 0 := fun h => by
      obtain ⟨p, q⟩ := byL_zero h
      exact h1 (stoW.total _ _ q p)
    rw [if_neg h1, or2_n n1, byL_dec]
theorem rLt_pos (x y : FactT) : 0 < ordR x y ↔ rLt y x = true := by
  unfold rLt
  rw [decide_eq_true_eq, ordR_eq, ordR_eq]
  exact (cmpsK.flip _ _).symm
theorem rLt_trans {x y z : FactT} (h1 : rLt x y = true) (h2 : rLt y z = true) : rLt x z = true := by
  rw [rLt_eq] at *; exact stoK.trans _ _ _ h1 h2
theorem rLt_ntrans {x y z : FactT} (h1 : rLt y x = false) (h2 : rLt z y = false) : rLt z x = false := by
  rw [rLt_eq] at *
  cases h : kLt (rkey z) (rkey x) with
  | false => rfl
  | true =>
    cases h3 : kLt (rkey x) (rkey y) with
    | true => have := stoK.trans _ _ _ h h3; rw [h2] at this; cases this
    | false =>
      have := stoK.total _ _ h3 h1
      rw [this] at h; rw [h2] at h; cases h
theorem rLt_asymm {x y : FactT} (h : rLt x y = true) : rLt y x = false := by
  rw [rLt_eq] at *; exact stoK.asymm h
def dF : FactT := ((0, 0), (0, 0, 0), 0, ⟨#[]⟩, ⟨#[]⟩)
def SortedR (l : List FactT) : Prop := l.Pairwise (fun a b => rLt b a = false)
def pos (o : List FactT) (x : FactT) : Nat → Nat
  | 0 => 0
  | k + 1 => if latR (o.getD k dF) x = true then pos o x k else k + 1
def insR (o : List FactT) (x : FactT) : List FactT := o.take (pos o x o.length) ++ [x] ++ o.drop (pos o x o.length)
def orderR (l : List FactT) : List FactT := l.foldl insR []
theorem pos_le (o : List FactT) (x : FactT) : ∀ k, pos o x k ≤ k
  | 0 => Nat.le_refl _
  | k + 1 => by
    unfold pos; split
    · exact Nat.le_succ_of_le (pos_le o x k)
    · exact Nat.le_refl _
theorem pos_head (o : List FactT) (x : FactT) : ∀ k, pos o x k = 0 ∨ latR (o.getD (pos o x k - 1) dF) x = false
  | 0 => .inl rfl
  | k + 1 => by
    unfold pos; split
    · exact pos_head o x k
    · rename_i h; exact .inr (by simpa using h)
theorem pos_tail (o : List FactT) (x : FactT) : ∀ k j, pos o x k ≤ j → j < k → latR (o.getD j dF) x = true
  | 0, j, _, h => by omega
  | k + 1, j, h1, h2 => by
    unfold pos at h1; split at h1
    · rename_i h
      by_cases hj : j = k
      · subst hj; exact h
      · exact pos_tail o x k j h1 (by omega)
    · omega
theorem insR_perm (o : List FactT) (x : FactT) : (insR o x).Perm (o ++ [x]) := by
  unfold insR
  rw [List.append_assoc]
  refine (List.Perm.append_left _ (List.perm_append_comm (l₁ := [x]))).trans ?_
  rw [← List.append_assoc, List.take_append_drop]
theorem getD_at {α : Type} {l : List α} {j : Nat} (d : α) (h : j < l.length) : l.getD j d = l[j] := by simp [h]
theorem insR_sorted {o : List FactT} {x : FactT} (h : SortedR o) : SortedR (insR o x) := by
  have hle := pos_le o x o.length
  have hp := List.pairwise_iff_getElem.1 h
  have lo : ∀ a ∈ o.take (pos o x o.length), rLt x a = false := fun a ha => by
    obtain ⟨j, hj, rfl⟩ := List.getElem_of_mem ha
    rw [List.length_take] at hj
    rw [List.getElem_take]
    rcases pos_head o x o.length with h0 | h0
    · omega
    · rw [latR_eq, getD_at dF (by omega)] at h0
      by_cases hje : j = pos o x o.length - 1
      · subst hje; exact h0
      · exact rLt_ntrans (hp j (pos o x o.length - 1) (by omega) (by omega) (by omega)) h0
  have hi : ∀ a ∈ o.drop (pos o x o.length), rLt a x = false := fun a ha => by
    obtain ⟨j, hj, rfl⟩ := List.getElem_of_mem ha
    rw [List.length_drop] at hj
    rw [List.getElem_drop]
    have := pos_tail o x o.length (pos o x o.length + j) (by omega) (by omega)
    rw [latR_eq, getD_at dF (by omega)] at this
    exact rLt_asymm this
  unfold insR SortedR
  rw [List.append_assoc, List.pairwise_append]
  refine ⟨h.sublist (List.take_sublist _ _), ?_, fun a ha b hb => ?_⟩
  · rw [List.singleton_append, List.pairwise_cons]
    exact ⟨hi, h.sublist (List.drop_sublist _ _)⟩
  · rcases List.mem_append.1 hb with hb | hb
    · obtain rfl : b = x := by simpa using hb
      exact lo a ha
    · exact rLt_ntrans (lo a ha) (hi b hb)
theorem fold_facts : ∀ (l o : List FactT), SortedR o → SortedR (l.foldl insR o) ∧ (l.foldl insR o).Perm (o ++ l)
  | [], o, h => ⟨h, by simp⟩
  | x :: l, o, h => by
    obtain ⟨h1, h2⟩ := fold_facts l (insR o x) (insR_sorted h)
    refine ⟨h1, h2.trans ?_⟩
    have := (insR_perm o x).append_right l
    simpa [List.append_assoc] using this
theorem orderR_sorted (l : List FactT) : SortedR (orderR l) := (fold_facts l [] .nil).1
theorem orderR_perm (l : List FactT) : (orderR l).Perm l := (fold_facts l [] .nil).2
theorem orderR_snoc (l : List FactT) (x : FactT) : orderR (l ++ [x]) = insR (orderR l) x := by unfold orderR; rw [List.foldl_append]; rfl
theorem orderR_length (l : List FactT) : (orderR l).length = l.length := (orderR_perm l).length_eq
def allR (l : List FactT) : List ByteArray := (orderR l).map valR
theorem vals_unique {s t : List FactT} (hp : s.Perm t) (hs : SortedR s) (ht : SortedR t) : s.map valR = t.map valR := by
  have key : s.map rkey = t.map rkey := by
    refine List.Perm.eq_of_pairwise (le := fun a b => kLt b a = false) (fun a b _ _ h1 h2 => stoK.total _ _ h2 h1) ?_ ?_ (hp.map _)
    · exact List.pairwise_map.2 (hs.imp fun h => by rw [rLt_eq] at h; exact h)
    · exact List.pairwise_map.2 (ht.imp fun h => by rw [rLt_eq] at h; exact h)
  have e : ∀ l : List FactT, l.map valR = (l.map rkey).map (fun k => k.2.2) := fun l => by rw [List.map_map]; rfl
  rw [e, e, key]
theorem allR_of {s l : List FactT} (hp : s.Perm l) (hs : SortedR s) : s.map valR = allR l := vals_unique (hp.trans (orderR_perm l).symm) hs (orderR_sorted l)
theorem allR_length (l : List FactT) : (allR l).length = l.length := by unfold allR; rw [List.length_map, orderR_length]
def lastR (l : List FactT) : ByteArray := (allR l).getD (l.length - 1) ⟨#[]⟩
def maxP (l : List FactT) : Nat → FactT
  | 0 => l.getD 0 dF
  | i + 1 => if 0 < ordR (l.getD (i + 1) dF) (maxP l i) then l.getD (i + 1) dF else maxP l i
theorem maxP_facts (l : List FactT) : ∀ i, i < l.length → maxP l i ∈ l ∧ ∀ j, j ≤ i → rLt (maxP l i) (l.getD j dF) = false
  | 0, h => ⟨by rw [maxP, getD_at dF h]; exact List.getElem_mem _, fun j hj => by
    obtain rfl : j = 0 := by omega
    rw [maxP, rLt_eq]; exact stoK.irrefl _⟩
  | i + 1, h => by
    obtain ⟨h1, h2⟩ := maxP_facts l i (by omega)
    unfold maxP
    split
    · rename_i hlt
      have hlt := (rLt_pos _ _).1 hlt
      refine ⟨by rw [getD_at dF h]; exact List.getElem_mem _, fun j hj => ?_⟩
      by_cases hj' : j = i + 1
      · subst hj'; rw [rLt_eq]; exact stoK.irrefl _
      · exact rLt_ntrans (h2 j (by omega)) (rLt_asymm hlt)
    · rename_i hlt
      refine ⟨h1, fun j hj => ?_⟩
      by_cases hj' : j = i + 1
      · subst hj'
        cases hh : rLt (maxP l i) (l.getD (i + 1) dF) with
        | false => rfl
        | true => exact absurd ((rLt_pos _ _).2 hh) hlt
      · exact h2 j (by omega)
theorem maxP_last {l : List FactT} (h : 0 < l.length) : valR (maxP l (l.length - 1)) = lastR l := by
  obtain ⟨h1, h2⟩ := maxP_facts l (l.length - 1) (by omega)
  have hlen := orderR_length l
  have hz : ∀ y ∈ orderR l, rLt ((orderR l)[l.length - 1]'(by omega)) y = false := fun y hy => by
    obtain ⟨j, hj, rfl⟩ := List.getElem_of_mem hy
    by_cases hje : j = l.length - 1
    · subst hje; rw [rLt_eq]; exact stoK.irrefl _
    · exact (List.pairwise_iff_getElem.1 (orderR_sorted l)) j (l.length - 1) hj (by omega) (by omega)
  have a1 := hz _ ((orderR_perm l).mem_iff.2 h1)
  have hm : (orderR l)[l.length - 1]'(by omega) ∈ l := (orderR_perm l).mem_iff.1 (List.getElem_mem _)
  obtain ⟨j, hj, hje⟩ := List.getElem_of_mem hm
  have a2 := h2 j (by omega)
  rw [getD_at dF hj, hje] at a2
  rw [rLt_eq] at a1 a2
  have hk := stoK.total _ _ a2 a1
  have : lastR l = valR ((orderR l)[l.length - 1]'(by omega)) := by
    unfold lastR allR
    rw [getD_at _ (by rw [List.length_map]; omega), List.getElem_map]
  rw [this]
  exact congrArg (fun k : KeyT => k.2.2) hk
def elR (l : List FactT) : List ByteArray := sortK lessS (l.map valR)
theorem sortK_same {l m : List ByteArray} (h : ∀ x, x ∈ l ↔ x ∈ m) : sortK lessS l = sortK lessS m := by
  obtain ⟨a1, a2⟩ := sortK_facts stoStr l
  obtain ⟨b1, b2⟩ := sortK_facts stoStr m
  exact inc_unique stoStr _ _ a1 b1 fun x => by rw [a2, b2, h]
theorem allR_mem (l : List FactT) (x : ByteArray) : x ∈ allR l ↔ x ∈ l.map valR := ((orderR_perm l).map valR).mem_iff
theorem elR_of {l : List FactT} {s : List ByteArray} (hp : s.Perm (allR l)) (hs : s.Pairwise (fun a b => lessS b a = false)) : compact s = elR l := by
  rw [compact_sortK stoStr (allR l) s hp hs]
  exact sortK_same (allR_mem l)
theorem elR_mem (l : List FactT) (x : ByteArray) : x ∈ elR l ↔ x ∈ l.map valR := (sortK_facts stoStr _).2 x
theorem notin_at {α : Type} {lt : α → α → Bool} (ho : STO lt) {L : List α} {v : α} {k : Nat} (d : α) (hi : Inc lt L) (hk : k ≤ L.length) (h1 : ∀ j, j < k → lt (L.getD j d) v = true) (h2 : k = L.length ∨ lt (L.getD k d) v = false ∧ ¬ L.getD k d = v) : v ∉ L := by
  intro hm
  obtain ⟨j, hj, rfl⟩ := List.getElem_of_mem hm
  by_cases hjk : j < k
  · have := h1 j hjk
    rw [getD_at d hj, ho.irrefl] at this; cases this
  · rcases h2 with h2 | ⟨h2, h3⟩
    · omega
    · by_cases he : j = k
      · subst he; exact h3 (getD_at d hj)
      · have := (List.pairwise_iff_getElem.1 hi) k j (by omega) hj (by omega)
        rw [getD_at d (by omega), this] at h2; cases h2
end Go.Proofs.Ytpehmadeklaebaa.V
