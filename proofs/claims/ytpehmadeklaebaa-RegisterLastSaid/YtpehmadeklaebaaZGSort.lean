/-
  GSort
-/
import Derived.Test.YtpehmadeklaebaaZG15
import Derived.Test.YtpehmadeklaebaaZGRp
import Derived.Test.YtpehmadeklaebaaZGSl
namespace Go.Proofs.Ytpehmadeklaebaa.V
open Go Go.Shelf Go.RowKit
open Go.Sort (HoldsK Holds size_flatK get_flatK putRowK PermIn SortedIn flatK putCells mapBlock grow)
set_option linter.unusedVariables false
set_option linter.unusedSimpArgs false

theorem exL_app : ∀ a b : List AV, AV.exL a = true → AV.exL b = true → AV.exL (a ++ b) = true
  | [], b, _, h => h
  | c :: a, b, h1, h2 => by
    simp only [AV.exL, Bool.and_eq_true] at h1
    simp only [List.cons_append, AV.exL, Bool.and_eq_true]
    exact ⟨h1.1, exL_app a b h1.2 h2⟩
theorem vals_app : ∀ a b : List AV, AV.vals (a ++ b) = AV.vals a ++ AV.vals b
  | [], b => rfl
  | c :: a, b => by simp only [List.cons_append, AV.vals, vals_app a b]
theorem vals_len : ∀ a : List AV, (AV.vals a).length = a.length
  | [] => rfl
  | c :: a => by simp only [AV.vals, List.length_cons, vals_len a]
theorem exL_flat {α : Type} {enc : α → List AV} (h : ∀ x, AV.exL (enc x) = true) : ∀ l : List α, AV.exL (l.flatMap enc) = true
  | [] => rfl
  | x :: l => by rw [List.flatMap_cons]; exact exL_app _ _ (h x) (exL_flat h l)
theorem vals_flat {α : Type} {enc : α → List AV} : ∀ l : List α, AV.vals (l.flatMap enc) = l.flatMap fun x => AV.vals (enc x)
  | [] => rfl
  | x :: l => by rw [List.flatMap_cons, List.flatMap_cons, vals_app, vals_flat l]
theorem exL_x : ∀ fv : List Value, AV.exL (fv.map .x) = true ∧ AV.vals (fv.map .x) = fv
  | [] => ⟨rfl, rfl⟩
  | v :: l => by
    obtain ⟨h1, h2⟩ := exL_x l
    exact ⟨by simp only [List.map_cons, AV.exL, AV.ex, h1, Bool.and_self], by simp only [List.map_cons, AV.vals, AV.val, h2]⟩
theorem flat_getG {α β : Type} {enc : α → List β} {k : Nat} (hk : ∀ x, (enc x).length = k) : ∀ (l : List α) (i j : Nat) (x : α), l[i]? = some x → j < k → (l.flatMap enc)[i * k + j]? = (enc x)[j]?
  | [], i, j, x, h, _ => by simp at h
  | y :: l, 0, j, x, h, hj => by
    obtain rfl : y = x := by simpa using h
    rw [List.flatMap_cons, Nat.zero_mul, Nat.zero_add, List.getElem?_append_left (by rw [hk]; exact hj)]
  | y :: l, i + 1, j, x, h, hj => by
    rw [List.flatMap_cons, List.getElem?_append_right (by rw [hk, Nat.add_mul, Nat.one_mul]; omega), hk, show (i + 1) * k + j - k = i * k + j by rw [Nat.add_mul, Nat.one_mul]; omega]
    exact flat_getG hk l i j x (by simpa using h) hj
theorem flat_lenG {α β : Type} {enc : α → List β} {k : Nat} (hk : ∀ x, (enc x).length = k) : ∀ l : List α, (l.flatMap enc).length = l.length * k
  | [] => by simp
  | x :: l => by rw [List.flatMap_cons, List.length_append, hk, flat_lenG hk l, List.length_cons, Nat.add_mul, Nat.one_mul, Nat.add_comm]

section
variable {P : Program} {g : FuncId}
/-- A function that puts the cells of a row in another order, out of its contract at the world. -/
theorem sorts_m {a : Ty} {e : TypeId} (hex : ∀ x : a.T, AV.exL (a.enc x) = true) (hsz0 : 0 < a.size) (fv : List Value) (v : Value) (l : List a.T) (res : List a.T → Prop) (henter : ∀ (args : Array Value) (w : World), (callFunc g args).run P w = .ok (.enter g args) w) (hnil : l = [] → res [])
    (h0 : ∀ p cap w, Calls P g (Value.slice p 0 cap :: fv).toArray w fun en w' => en = .returned (.tuple #[]) ∧ w' = w)
    (h1 : ∀ b cap w, b < w.heap.size → (∀ j v, (AV.vals (l.flatMap a.enc))[j]? = some v → w.cell? ⟨b, 0 + j, none⟩ = some v ∧ w.frozen? ⟨b, 0 + j, none⟩ = false) → Calls P g (Value.slice (some ⟨b, 0, none⟩) l.length cap :: fv).toArray w fun en w' => en = .returned (.tuple #[]) ∧ ∃ (l' : List a.T) (q : Nat) (os : Array Obj), res l' ∧ l'.length = l.length ∧ w' = grow (mapBlock (Go.Sort.ahead w q) b (putCells id 0 (AV.vals (l'.flatMap a.enc)).toArray)) os) :
    MFn P False g (.x v :: fv.map .x) [.row v e a.size l.length (l.flatMap a.enc)] (fun av hh => ∃ l', res l' ∧ av = .tup [] ∧ hh = [.row v e a.size l'.length (l'.flatMap a.enc)]) := by
  refine ⟨henter, fun O w args env hl hr => ?_⟩
  have hargs : args = (v :: fv).toArray := by
    apply Array.ext'
    have hx := exL_x fv
    have := (AV.repC_vals_ (O := owned O [.row v e a.size l.length (l.flatMap a.enc)]) (w := w) (.x v :: fv.map .x) (by simp only [AV.exL, AV.ex, hx.1, Bool.and_self]) args.toList (by simpa using hl)).1 (by
      have e : (fun j => args.toList[j]?) = (fun j => args[j]?) := funext fun j => Array.getElem?_toList
      rw [e]; exact hr)
    rw [this]; simp only [AV.vals, AV.val, hx.2]
  subst hargs
  have hexl := exL_flat hex l
  obtain ⟨vs, hown, hvl, hvr⟩ := env.objs (.row v e a.size l.length (l.flatMap a.enc)) (by simp)
  have hvs : vs = AV.vals (l.flatMap a.enc) := (AV.repC_vals_ _ hexl vs hvl).1 hvr
  subst hvs
  have rep : ∀ (O : Nat → Prop) (w : World) (l : List a.T), RepC O w (l.flatMap a.enc) (fun j => (AV.vals (l.flatMap a.enc))[j]?) := fun O w l => (AV.repC_vals_ _ (exL_flat hex l) _ (by rw [vals_len])).2 rfl
  have hfl : ∀ l : List a.T, (AV.vals (l.flatMap a.enc)).length = l.length * a.size := fun l => by rw [vals_len, flat_lenG (fun x => Ty.enc_len a x)]
  by_cases hl0 : l.length = 0
  · have hln : l = [] := List.eq_nil_of_length_eq_zero hl0
    have hv : ∃ p cap, v = .slice p 0 cap := by
      rcases hown.2 with ⟨rfl, _⟩ | ⟨g, cap, cur, rfl, _⟩
      · exact ⟨_, _, rfl⟩
      · rw [hl0]; exact ⟨_, _, rfl⟩
    obtain ⟨p, cap, rfl⟩ := hv
    refine (h0 p cap w).mono ?_
    rintro en w' ⟨rfl, rfl⟩
    exact ⟨_, _, _, rfl, ⟨[], hnil hln, rfl, rfl⟩, by subst hln; exact env, by simp only [Rep]; exact ⟨_, rfl, rfl, by simp [RepC]⟩⟩
  · rcases hown.2 with ⟨rfl, h2⟩ | ⟨b, cap, cur, rfl, hb, hh, hnc, hcm, hsz, htk⟩
    · exact absurd h2 hl0
    have hlt := (Array.getElem?_eq_some_iff.1 hh).1
    refine (h1 b cap w hlt fun j v hj => ⟨?_, by simp [World.frozen?, hh]⟩).mono ?_
    · have := hown.cells (g := b) rfl j _ hj
      rw [add_plain] at this
      exact this
    rintro en w' ⟨rfl, l', q, os, hres, hll, hw⟩
    have hgr : w.grownBy w' (some b) := by
      rw [hw]
      refine ⟨rfl, rfl, rfl, ?_, fun k hk hne => ?_⟩
      · show w.heap.size ≤ (Sort.grow _ os).heap.size
        rw [Sort.size_grow]
        simp [mapBlock, Go.Sort.ahead]
      · show (Sort.grow _ os).heap[k]? = _
        rw [Sort.heap_grow_old _ _ (by simpa [mapBlock, Go.Sort.ahead] using hk)]
        show (w.heap.modify b _)[k]? = _
        rw [Array.getElem?_modify, if_neg (by rintro rfl; exact hne rfl)]
    have hheap : w'.heap[b]? = some (.cells (putCells id 0 (AV.vals (l'.flatMap a.enc)).toArray cur) e (0, 0)) := by
      rw [hw]
      show (Sort.grow _ os).heap[b]? = _
      rw [Sort.heap_grow_old _ _ (by simpa [mapBlock, Go.Sort.ahead] using hlt)]
      simp [mapBlock, Go.Sort.ahead, Array.getElem?_modify, hh, Go.Sort.onCells]
    have hle := Nat.mul_le_mul_right a.size hnc
    have hown' : w'.ownsRow 0 e a.size (.slice (some ⟨b, 0, none⟩) l.length cap) l.length (AV.vals (l'.flatMap a.enc)) := by
      refine ⟨by rw [hfl, hll], .inr ⟨b, cap, _, rfl, Nat.zero_le _, hheap, hnc, hcm, by simpa [putCells] using hsz, ?_⟩⟩
      apply List.ext_getElem?
      intro j
      rw [List.getElem?_take, Array.getElem?_toList]
      have hf := hfl l'
      rw [hll] at hf
      by_cases hj : j < l.length * a.size
      · have hjc : j < cur.size := by rw [hsz]; omega
        rw [if_pos hj]
        simp only [putCells, Array.getElem?_mapIdx, Array.getElem?_eq_getElem hjc, Option.map_some]
        have hsa : (AV.vals (l'.flatMap a.enc)).toArray.size = l.length * a.size := by rw [List.size_toArray, hf]
        rw [if_pos ⟨Nat.zero_le _, by rw [hsa]; omega⟩, List.getElem?_eq_getElem (by rw [hf]; exact hj)]
        congr 1
        have : j < (AV.vals (l'.flatMap a.enc)).toArray.size := by rw [hsa]; exact hj
        simp only [Nat.sub_zero, id]
        rw [getElem!_pos _ j this]
        simp
      · rw [if_neg hj, List.getElem?_eq_none (by rw [hf]; omega)]
    have e5 : HObj.row (.slice (some ⟨b, 0, none⟩) l.length cap) e a.size l'.length (l'.flatMap a.enc) = .row (.slice (some ⟨b, 0, none⟩) l.length cap) e a.size l.length (l'.flatMap a.enc) := by rw [hll]
    refine ⟨_, _, [.row (.slice (some ⟨b, 0, none⟩) l.length cap) e a.size l'.length (l'.flatMap a.enc)], rfl, ⟨l', hres, rfl, rfl⟩, ?_, by simp only [Rep]; exact ⟨_, rfl, rfl, by simp [RepC]⟩⟩
    have := Env.set_ (q := .row (.slice (some ⟨b, 0, none⟩) l.length cap) e a.size l'.length (l'.flatMap a.enc)) env (i := 0) rfl hgr (fun h => h.elim) (by rw [e5]; exact ⟨_, hown', by rw [hfl, flat_lenG (fun x => Ty.enc_len a x)], rep _ _ _⟩) (fun c hc => .inl hc) (fun c hc => by
      obtain rfl : b = c := by simpa [HObj.blk, Value.ownBlock] using hc
      exact Nat.lt_of_lt_of_le hlt hgr.size)
    exact this
end

-- texts
def ofB (s : List UInt8) : ByteArray := ⟨s.toArray⟩
theorem ofB_toList (s : ByteArray) : ofB s.toList = s := toList_inj_ (by rw [ByteArray.toList_eq]; simp [ofB])
theorem toList_ofB (s : List UInt8) : (ofB s).toList = s := by rw [ByteArray.toList_eq]; simp [ofB]
theorem bytesLess_lt : ∀ a b : List UInt8, Op.bytesLess a b = decide (a < b)
  | [], [] => by simp [Op.bytesLess]
  | [], _ :: _ => by simp [Op.bytesLess]
  | _ :: _, [] => by simp [Op.bytesLess]
  | a :: x, b :: y => by
    simp only [Op.bytesLess, bytesLess_lt x y, List.cons_lt_cons_iff]
    by_cases h1 : a < b
    · simp [h1]
    · by_cases h2 : a = b <;> simp [h1, h2]
def strSorted (l s : List ByteArray) : Prop := s.Perm l ∧ s.Pairwise (fun a b => lessS b a = false)
theorem sortS_res (l : List ByteArray) : strSorted l (((l.map ByteArray.toList).mergeSort fun x y => decide (x ≤ y)).map ofB) := by
  have hp := List.mergeSort_perm (l.map ByteArray.toList) (fun x y => decide (x ≤ y))
  refine ⟨?_, ?_⟩
  · have := hp.map ofB
    refine this.trans (List.Perm.of_eq ?_)
    rw [List.map_map]
    conv => rhs; rw [← List.map_id l]
    exact List.map_congr_left fun x _ => ofB_toList x
  · have hs := List.pairwise_mergeSort (le := fun x y : List UInt8 => decide (x ≤ y)) (fun a b c h1 h2 => by simp only [decide_eq_true_eq] at *; exact List.le_trans h1 h2) (fun a b => by simp only [Bool.or_eq_true, decide_eq_true_eq]; exact List.le_total a b) (l.map ByteArray.toList)
    refine List.pairwise_map.2 (hs.imp fun {a b} h => ?_)
    unfold lessS
    rw [toList_ofB, toList_ofB, bytesLess_lt]
    simp only [decide_eq_true_eq] at h
    exact decide_eq_false (fun hlt => absurd hlt (List.not_lt.2 h))
theorem sorts_enter (args : Array Value) (w : World) : (callFunc 55 args).run Try.prog w = .ok (.enter 55 args) w := enter_of Try.func55 (by kernel_rfl) rfl args w
theorem strvals (l : List ByteArray) : AV.vals (l.flatMap (Ty.enc .str)) = l.map Value.string := by
  rw [vals_flat]
  induction l with
  | nil => rfl
  | cons x l ih => rw [List.flatMap_cons, ih]; rfl
theorem encStr_back (x : ByteArray) : encStr x.toList = .string x := by
  show Value.string ⟨x.toList.toArray⟩ = _
  congr 1
  exact ofB_toList x
theorem sortstr_m (v : Value) (l : List ByteArray) (hn : l.length < 1000000) : MFn Try.prog False 55 [.x v] [.row v 9 1 l.length (l.flatMap (Ty.enc .str))] (fun av hh => ∃ l', strSorted l l' ∧ av = .tup [] ∧ hh = [.row v 9 1 l'.length (l'.flatMap (Ty.enc .str))]) := by
  refine sorts_m (a := .str) (e := 9) (fun _ => rfl) (by decide) [] v l (strSorted l) sorts_enter (fun h => by rw [h]; exact ⟨.refl _, .nil⟩) (fun p cap w => ?_) (fun b cap w hb hH => ?_)
  · exact calls_of_every_depth fun D => AnyS.slices_Sort_string_none_alone sortSt D p cap w
  · have hlen : (l.map ByteArray.toList).length = l.length := List.length_map _
    have hHo : Holds encStr w b 0 (l.map ByteArray.toList).toArray := by
      intro j hj
      have hj' : j < l.length := by simpa using hj
      have := hH j (Value.string l[j]) (by rw [strvals, List.getElem?_map, List.getElem?_eq_getElem hj']; rfl)
      refine ⟨?_, this.2⟩
      rw [this.1, getElem!_pos _ j (by simpa using hj')]
      simp only [List.getElem_toArray, List.getElem_map]
      rw [encStr_back]
    have h := calls_of_every_depth fun D => AnyS.slices_Sort_string_alone sortSt D b 0 cap (l.map ByteArray.toList) w hHo hb (by rw [hlen]; omega)
    rw [hlen] at h
    refine h.mono ?_
    rintro en w' ⟨rfl, q, os, hw⟩
    refine ⟨rfl, _, q, os, sortS_res l, ?_, ?_⟩
    · rw [List.length_map, List.length_mergeSort, List.length_map]
    · rw [hw, strvals]
      unfold Sort.putRow
      congr 2
      funext c
      unfold putCells
      apply Array.ext
      · simp
      · intro i h1 h2
        simp only [Array.getElem_mapIdx, List.size_toArray, List.length_map, List.length_mergeSort]
        split
        · rename_i hc
          have hi : i - 0 < ((l.map ByteArray.toList).mergeSort fun x y => decide (x ≤ y)).length := by rw [List.length_mergeSort, List.length_map]; omega
          rw [getElem!_pos _ _ (by simpa using hi), getElem!_pos _ _ (by simpa using hi)]
          simp only [List.getElem_toArray, List.getElem_map, id]
          rfl
        · rfl

-- facts
def encV (d : FactT) : List Value := AV.vals (cFact.enc d)
theorem encV8 (x : FactT) : (encV x).length = 8 := rfl
theorem flatVK (d : Array FactT) (j : Nat) (h : j < d.size * 8) : (d.toList.flatMap encV)[j]? = some ((flatK encV 8 d)[j]!) := by
  have hi : j / 8 < d.toList.length := by rw [Array.length_toList]; omega
  have e := flat_getG encV8 d.toList (j / 8) (j % 8) _ (List.getElem?_eq_getElem hi) (Nat.mod_lt _ (by decide))
  rw [show j / 8 * 8 + j % 8 = j by omega] at e
  rw [e, get_flatK _ _ _ _ h]
  have hi2 : j / 8 < d.size := by simpa using hi
  have e2 : d[j / 8]! = d.toList[j / 8] := by simp [hi2]
  rw [e2]
  have hm : j % 8 < (encV d.toList[j / 8]).length := Nat.mod_lt _ (by decide)
  rw [List.getElem?_eq_getElem hm]
  congr 1
  exact (getElem!_pos (encV d.toList[j / 8]) (j % 8) hm).symm
theorem flatVA (d : Array FactT) : flatK encV 8 d = (d.toList.flatMap encV).toArray := by
  apply Array.ext'
  apply List.ext_getElem?
  intro j
  simp only [Array.getElem?_toList]
  have hl : (d.toList.flatMap encV).length = d.size * 8 := by rw [flat_lenG encV8, Array.length_toList]
  by_cases h : j < d.size * 8
  · rw [flatVK d j h, Array.getElem?_eq_getElem (by rw [size_flatK]; exact h)]
    congr 1
    exact (getElem!_pos _ j (by rw [size_flatK]; exact h)).symm
  · rw [List.getElem?_eq_none (by rw [hl]; omega), Array.getElem?_eq_none (by rw [size_flatK]; omega)]
theorem sortf_enter (args : Array Value) (w : World) : (callFunc 53 args).run Try.prog w = .ok (.enter 53 args) w := enter_of Try.func53 (by kernel_rfl) rfl args w
def sortedBy (cf : FactT → FactT → Int) (l s : List FactT) : Prop := s.Perm l ∧ s.Pairwise (fun a b => decide (cf b a < 0) = false)
theorem sortf_m (g : FuncId) (cf : FactT → FactT → Int) (hO : Go.Sort.SWO (ltOf cf)) (hc : FE.ok Try.prog True (fe2 g (.v cFact) (.v cFact) (fun _ _ => True) (fun x y => [.td cInt (cf x y)]))) (v : Value) (l : List FactT) (hn : l.length < 1000000) :
    MFn Try.prog False 53 [.x v, .x (.func (.func g) #[] #[])] [.row v 64 8 l.length (l.flatMap cFact.enc)] (fun av hh => ∃ l' : List FactT, sortedBy cf l l' ∧ av = .tup [] ∧ hh = [.row v 64 8 l'.length (l'.flatMap cFact.enc)]) := by
  have hp : ∀ x y, PFn Try.prog True g [cFact.den x, cFact.den y] (.x (.int .i64 (cf x y))) := fun x y => hc (x, y, ()) trivial ⟨fun _ => 0, fun _ => undef⟩
  refine sorts_m (a := cFact) (e := 64) (fun _ => rfl) (by decide) [.func (.func g) #[] #[]] v l (sortedBy cf l) sortf_enter (fun h => by rw [h]; exact ⟨.refl _, .nil⟩) (fun p cap w => ?_) (fun b cap w hb hH => ?_)
  · exact AnyF.slices_SortFunc_none sortFact p cap _ w
  · have hd : l.toArray.size = l.length := by simp
    have hHK : HoldsK encV 8 w b 0 l.toArray := by
      intro j hj
      rw [size_flatK, hd] at hj
      exact hH j _ (by rw [vals_flat]; exact flatVK l.toArray j (by rw [hd]; exact hj))
    have h := AnyQ.slices_SortFunc sortFact 8 agg_fact size_fact encV (fun _ => rfl) (fun x v hv => by
        simp [encV, Ty.enc, AV.vals, AV.val] at hv; rcases hv with rfl | rfl | rfl | rfl | rfl | rfl | rfl | rfl <;> rfl) cf hO g #[] b 0 cap l.toArray w (hp dF dF).enter (fun m os dk _ x y => by
      have hr : ∀ (O : Nat → Prop) (w : World), RepC O w [cFact.den x, cFact.den y] (fun j => (#[Value.agg (encV x).toArray, Value.agg (encV y).toArray] ++ (#[] : Array Value))[j]?) := fun O w => by
        simp only [RepC]
        exact ⟨⟨_, rfl, (AV.rep_val (cFact.den x) rfl _).2 rfl⟩, ⟨_, rfl, (AV.rep_val (cFact.den y) rfl _).2 rfl⟩, trivial⟩
      refine ((hp x y).calls (fun _ => False) _ _ (fun b hb => hb.elim) rfl (hr _ _)).mono ?_
      rintro e w' ⟨r, rfl, h2, h3⟩
      rw [rep_x] at h2
      subst h2
      obtain ⟨q, os', hw⟩ := exact_of h3
      exact ⟨rfl, q, os', hw⟩) hHK hb (by rw [hd]; omega)
    rw [hd] at h
    refine h.mono ?_
    rintro en w' ⟨rfl, d', q, os, hpm, hs, hw⟩
    have hds : d'.size = l.length := by have := hpm.1; rw [hd] at this; exact this
    refine ⟨rfl, d'.toList, q, os, ⟨?_, ?_⟩, by rw [Array.length_toList, hds], ?_⟩
    · have h3 := hpm.2.2
      rw [← hds] at h3
      have e1 : d'.extract 0 d'.size = d' := by simp
      have e2 : l.toArray.extract 0 d'.size = l.toArray := by rw [hds, ← hd]; simp
      rw [e1, e2] at h3
      simpa using h3
    · rw [List.pairwise_iff_getElem]
      intro i j hi hj hij
      have h3 := hs i j (Nat.zero_le _) hij (by simp at hj; omega)
      have hi' : i < d'.size := by simpa using hi
      have hj' : j < d'.size := by simpa using hj
      simpa [ltOf, hi', hj'] using h3
    · rw [hw, vals_flat]
      show grow (mapBlock (Go.Sort.ahead w q) b (putCells id 0 (flatK encV 8 d'))) os = _
      rw [flatVA]; rfl
theorem swoR : Go.Sort.SWO (ltOf ordR) := by
  have e : ∀ x y, ltOf ordR x y = rLt x y := fun _ _ => rfl
  exact ⟨fun x => by rw [e, rLt_eq]; exact stoK.irrefl _, fun x y z h1 h2 => by rw [e] at *; exact rLt_trans h1 h2, fun x y z h1 h2 => by rw [e] at *; exact rLt_ntrans h2 h1⟩
end Go.Proofs.Ytpehmadeklaebaa.V
