/-
  float.Sort and the reference's Sort and All, whole: both sort by the key, stably.
-/
import Derived.Test.YtngjfeielpnnnaaSortAll
import Derived.Test.YtngjfeielpnnnaaMem
namespace Go.Proofs.Ytngjfeielpnnnaa
open Go.RowKit
open FloatPlain
open Stable
set_option linter.unusedVariables false
set_option linter.unusedSimpArgs false
attribute [local go_sem] run_frombits run_bits u64_signed run_store_float

def f64v (b : Nat) : Value := .float .f64 b
/-- A slice of numbers that reads as xs. -/
abbrev RdF (w : World) (B : Nat) (A : Option Addr) (n : Nat) (xs : List Nat) : Prop := Reads w B 1 A n (xs.map f64v)
theorem RdF.len {w : World} {B : Nat} {A : Option Addr} {n : Nat} {xs : List Nat} (h : RdF w B A n xs) : xs.length = n := by have := h.1; simpa using this
theorem RdF.get {w : World} {B : Nat} {A : Option Addr} {n k : Nat} {xs : List Nat} (h : RdF w B A n xs) (hk : k < n) : ∃ ad, A = some ad ∧ w.cell? (ad.add k) = some (.float .f64 (xs.getD k default)) := by
  obtain ⟨ad, u, e, _, hx, hc⟩ := Reads.at_ h hk
  refine ⟨ad, e, ?_⟩
  rw [hc, ← hx]
  have := h.len
  simp [List.getD, f64v, show k < xs.length by omega]

/-- A row of numbers of the call's own. -/
abbrev OwnF (w : World) (base : Nat) (v : Value) (l : List Nat) : Prop := w.ownsRow base 24 1 v l.length (l.map f64v)

theorem info64 : (Try.prog.info? 24).map (fun i => (i.zero, i.size, i.bytes)) = some (some (.float .f64 0), 1, 8) := by kernel_rfl

theorem app_f64 {W : World} {base : Nat} {v : Value} {l : List Nat} (x : Nat) (hown : OwnF W base v l) (hl : l.length < 1152921504606) (hb : base ≤ W.heap.size)
    {ops : Array Oper} {rest : List Oper} {o : Oper} {a : Act} {Q : Exit → Act → World → Prop} (hgd : o.guard = none) (s y : Operand)
    (ho : o.op = .call { callee := .builtin .append, args := #[s, y], argTypes := #[31, 31] })
    (hs : a.eval s = v) (hy : a.eval y = .slice (some ⟨W.heap.size, 0, none⟩) 1 1)
    (h : ∀ v' w', OwnF w' base v' (l ++ [x]) → W.grownBy w' v.ownBlock → wpList Try.prog ops Q rest (a.put o.dst v') w') :
    wpList Try.prog ops Q (o :: rest) a (W.alloc (.cells #[.float .f64 x] 24)) := by
  obtain ⟨i, hi, hz, hsz, hby⟩ := info_parts info64
  refine wpList_append_own (P := Try.prog) _ hgd s y 31 ho base 24 i (.float .f64 0) 1 8 (by kernel_rfl) hi hz hsz hby rfl (by decide) v l.length (l.map f64v) hs (hown.alloc _) ⟨W.heap.size, 0, none⟩ 1 1 [f64v x] hy rfl ?_ ?_ ?_ ?_ ?_ ?_
  · intro j u hj
    cases j with
    | zero => obtain rfl : f64v x = u := by simpa using hj
              show (W.alloc _).cell? ⟨W.heap.size, 0, none⟩ = _
              simp [f64v]
    | succ j => simp at hj
  · intro u hu; obtain rfl : u = f64v x := by simpa using hu
    rfl
  · simp only [maxLen]; omega
  · omega
  · simp; omega
  · intro v' w' h1 h2 _
    refine h v' w' ?_ ?_
    · show w'.ownsRow _ _ _ _ _ _
      rw [List.length_append, List.map_append]; exact h1
    · exact ⟨h2.os, h2.tape, h2.output, by have := h2.size; simp at this; omega, fun k hk hne => (h2.block k (by simp; omega) hne).trans (Below.heap_alloc _ _ k hk)⟩

set_option maxRecDepth 100000 in
theorem all_c (A1 A2 : Option Addr) (n m c1 c2 B1 B2 : Nat) (xs ys : List Nat) (w : World) (h1 : RdF w B1 A1 n xs) (h2 : RdF w B2 A2 m ys) (hn : n < 1152921504606846976) (hm : m < 1152921504606846976) :
    Calls Try.prog 20 #[.slice A1 n c1, .slice A2 m c2] w fun e w' => e = .returned (.bool (decide (xs = ys))) ∧ ∃ q, w' = w.drewN q := by
  have HX := Lib.hid h1.len
  have HY := Lib.hid h2.len
  have H1 := Lib.hid h1
  have H2 := Lib.hid h2
  clear h1 h2
  by_cases hnm : n = m
  · subst hnm
    have hne : ((n : Int) != (n : Int)) = false := by simp
    generalize hd : decide (xs = ys) = r
    have HD := Lib.hid hd
    clear hd
    go_enter Try.func20, Try.ntmps20
    go_wp2_with fail
    go_loopw [5] (fun vi wr => ∃ (i : Nat), vi = .int .i64 i ∧ i ≤ n ∧ Hid (∃ q, wr = w.drewN q) ∧ Hid (xs.take i = ys.take i)) (fun vi _ => n - (intOf vi).toNat)
    case atStart => exact ⟨0, rfl, by omega, ⟨0, rfl⟩, rfl⟩
    case round =>
      obtain ⟨i, rfl, hin, HQ, HE⟩ := hrel
      by_cases hlt : i < n
      · obtain ⟨q, rfl⟩ := HQ.out
        obtain ⟨a1, rfl, hc1⟩ := H1.out.get hlt
        obtain ⟨a2, rfl, hc2⟩ := H2.out.get hlt
        have hsame := fun n => same_c (xs.getD i default) (ys.getD i default) (w.drewN (q + n))
        have HN : Hid (xs.getD i default = ys.getD i default → xs.take (i + 1) = ys.take (i + 1)) := fun e => by
          have hx := HX.out; have hy := HY.out
          rw [List.take_succ_eq_append_getElem (by omega), List.take_succ_eq_append_getElem (by omega), HE.out]
          simp [List.getD, show i < xs.length by omega, show i < ys.length by omega] at e
          rw [e]
        have HM : Hid (¬ xs.getD i default = ys.getD i default → r = false) := fun e => by
          rw [← HD.out]; refine decide_eq_false (fun h => e (by rw [h]))
        clear HQ
        generalize xs.getD i default = x at hc1 hsame HN HM
        generalize ys.getD i default = y at hc2 hsame HN HM
        by_cases hxy : x = y
        · rw [decide_eq_true hxy] at hsame
          have HXY := Lib.hid hxy
          clear hxy
          go_wp2_with fail
          go_quiet (first | (go_at_call 16; exact quiet_add_left (hsame _)))
          clear hc1 hc2 hsame
          go_wp2
          go_roundw
          case rel => exact ⟨i + 1, by go_num, by omega, ⟨_, rfl⟩, HN.out HXY.out⟩
          case measure => simp [intOf]; omega
        · rw [decide_eq_false hxy] at hsame
          have HR := Lib.hid (HM.out hxy)
          clear hxy
          go_wp2_with fail
          go_quiet (first | (go_at_call 16; exact quiet_add_left (hsame _)))
          clear hc1 hc2 hsame
          go_wp2
          go_ret
          exact ⟨ret_bool HR.out.symm, _, by first | exact rfl | exact World.drewN_drewN _ _ _⟩
      · have hin' : i = n := by omega
        have HR : Hid (r = true) := by
          show _ = _
          rw [← HD.out]
          refine decide_eq_true ?_
          have := HE.out
          rw [hin', List.take_of_length_le (by rw [HX.out]; exact Nat.le_refl _), List.take_of_length_le (by rw [HY.out]; exact Nat.le_refl _)] at this
          exact this
        obtain ⟨q, rfl⟩ := HQ.out
        clear hin' HQ HE
        go_wp2
        go_ret
        exact ⟨ret_bool HR.out.symm, _, rfl⟩
  · have hne : ((n : Int) != (m : Int)) = true := by rw [bne_iff_ne]; omega
    have hr : decide (xs = ys) = false := decide_eq_false (fun e => hnm (by rw [← HX.out, ← HY.out, e]))
    rw [hr]
    clear hr
    go_enter Try.func20, Try.ntmps20
    go_wp2
    go_ret
    exact ⟨rfl, 0, rfl⟩

theorem run_make_rowN {P : Program} (t e : TypeId) (i : TypeInfo) (z : Value) (ht : P.underlying t = some (.slice e)) (hi : P.info? e = some i) (hz : i.zero = some z)
    (kl kc : IntKind) (n c : Nat) (hnc : n ≤ c) (hbytes : i.bytes * c ≤ 281474976710656) (h63 : c ≤ 9223372036854775807) (w : World) :
    (Instr.makeSlice t (.int kl (n : Int)) (.int kc (c : Int))).run P w = .ok (.slice (some ⟨w.heap.size, 0, none⟩) n c) (w.alloc (.cells (madeCells z.cells (c * i.size)) e)) := by
  have hb : (i.bytes : Int) * (c : Int) ≤ 281474976710656 := by
    have h : ((i.bytes * c : Nat) : Int) ≤ 281474976710656 := by omega
    rwa [Int.natCast_mul] at h
  have hr := run_make (P := P) w t e i z ht hi hz kl kc n c (by omega) (by omega) hb (by omega)
  simp only [Int.toNat_natCast] at hr
  exact hr
theorem make_f64 (n : Nat) (hn : n < 35184372088832) (w : World) : (Instr.makeSlice 31 (.int .i64 (n : Int)) (.int .i64 (n : Int))).run Try.prog w = .ok (.slice (some ⟨w.heap.size, 0, none⟩) n n) (w.alloc (.cells (madeCells #[.float .f64 0] n) 24)) := by
  obtain ⟨i, hi, hz, hsz, hby⟩ := info_parts info64
  have h := run_make_rowN (P := Try.prog) 31 24 i (.float .f64 0) (by kernel_rfl) hi hz .i64 .i64 n n (Nat.le_refl _) (by rw [hby]; omega) (by omega) w
  rw [hsz, Nat.mul_one] at h
  exact h
theorem own_made (w : World) (n : Nat) (hn : n < 35184372088832) : OwnF (w.alloc (.cells (madeCells #[.float .f64 0] n) 24)) w.heap.size (.slice (some ⟨w.heap.size, 0, none⟩) n n) (List.replicate n 0) := by
  have h := World.ownsRow_lit (base := w.heap.size) (e := 24) (size := 1) w (madeCells #[.float .f64 0] n) n (Nat.le_refl _) (by simp only [maxLen]; omega) (by rw [size_madeCells]; omega)
  rw [toList_madeCells_one] at h
  show World.ownsRow _ _ _ _ _ _ _
  rw [List.length_replicate, List.map_replicate]
  exact h
theorem OwnF.row {w : World} {base g cap : Nat} {l : List Nat} (h : OwnF w base (.slice (some ⟨g, 0, none⟩) l.length cap) l) (hok : ∀ x ∈ l, W64 x) : Row w g l := by
  refine ⟨(h.lt g rfl).2, fun i hi => ?_, fun i _ => h.frozenAt i, hok⟩
  rw [h.cellAt i (by omega)]
  simp [List.getD, f64v, hi]
theorem OwnF.set {w : World} {base g cap n : Nat} {l : List Nat} (hn : l.length = n) (h : OwnF w base (.slice (some ⟨g, 0, none⟩) n cap) l) (j x : Nat) :
    OwnF (w.setCell ⟨g, j, none⟩ (.float .f64 x)) base (.slice (some ⟨g, 0, none⟩) n cap) (l.set j x) ∧ w.grownBy (w.setCell ⟨g, j, none⟩ (.float .f64 x)) (some g) := by
  subst hn
  have := World.ownsRow.stored h j (.float .f64 x)
  refine ⟨?_, this.2⟩
  show World.ownsRow _ _ _ _ _ _ _
  rw [List.length_set, List.map_set]; exact this.1
theorem OwnF.cell {w : World} {base g cap n j : Nat} {l : List Nat} (hn : l.length = n) (h : OwnF w base (.slice (some ⟨g, 0, none⟩) n cap) l) (hj : j < n) : w.cell? ⟨g, j, none⟩ = some (.float .f64 (l.getD j default)) := by
  subst hn
  rw [World.ownsRow.cellAt h j (by omega)]; simp [List.getD, f64v, hj]
theorem OwnF.free {w : World} {base g cap n : Nat} {l : List Nat} (hn : l.length = n) (h : OwnF w base (.slice (some ⟨g, 0, none⟩) n cap) l) (j : Nat) : w.frozen? ⟨g, j, none⟩ = false := by
  subst hn
  exact World.ownsRow.frozenAt h j
theorem fill_step (f : Nat → Nat) (xs : List Nat) (k n : Nat) (hk : k < xs.length) (hn : xs.length = n) :
    ((xs.take k).map f ++ List.replicate (n - k) 0).set k (f (xs.getD k default)) = (xs.take (k + 1)).map f ++ List.replicate (n - (k + 1)) 0 := by
  have hl : ((xs.take k).map f).length = k := by rw [List.length_map, List.length_take]; omega
  rw [List.set_append_right _ _ (by omega), hl, Nat.sub_self, show n - k = (n - (k + 1)) + 1 by omega, List.replicate_succ, List.set_cons_zero, List.take_succ_eq_append_getElem hk, List.map_append]
  simp [List.getD, hk]
theorem Row.rd {w : World} {g : Nat} {l : List Nat} (h : Row w g l) : RdF w w.heap.size (some ⟨g, 0, none⟩) l.length l := by
  refine ⟨by simp, fun _ => ⟨_, rfl, h.lt, fun j u hu => ?_⟩⟩
  rw [List.getElem?_map] at hu
  obtain ⟨x, hx, rfl⟩ := Option.map_eq_some_iff.1 hu
  have hj : j < l.length := by
    rcases Nat.lt_or_ge j l.length with h' | h'
    · exact h'
    · rw [List.getElem?_eq_none h'] at hx; cases hx
  have : (⟨g, 0, none⟩ : Addr).add j = ⟨g, j, none⟩ := by unfold Addr.add; split <;> simp_all
  rw [this, h.cell j hj]
  simp [List.getD, f64v, hx]

set_option maxHeartbeats 1000000 in
set_option maxRecDepth 100000 in
theorem sort_c (A : Option Addr) (n c B : Nat) (xs : List Nat) (w : World) (h1 : RdF w B A n xs) (hB : B ≤ w.heap.size) (hok : ∀ x ∈ xs, W64 x) (hn : n < 1152921504606) :
    Calls Try.prog 21 #[.slice A n c] w fun e w' => ∃ A' c', e = .returned (.slice A' n c') ∧ RdF w' w'.heap.size A' n (ssort ltK (xs.map rawB)) ∧ Below w.heap.size w w' := by
  have HX := Lib.hid h1.len
  have H1 := Lib.hid (Reads.more h1 hB)
  have HOK := Lib.hid hok
  clear h1 hok hB
  have hmk := make_f64 n (by omega)
  have HST : Hid (∃ v l, v = .slice (some ⟨w.heap.size, 0, none⟩) n n ∧ OwnF (w.alloc (.cells (madeCells #[.float .f64 0] n) 24)) w.heap.size v l ∧ l.length = n ∧ l = (xs.take 0).map rawB ++ List.replicate (n - 0) 0) :=
    ⟨_, _, rfl, own_made w n (by omega), by simp, by simp⟩
  have HB0 : Hid (Below w.heap.size w (w.alloc (.cells (madeCells #[.float .f64 0] n) 24))) := (Below.refl _ _).alloc (Nat.le_refl _) _
  go_enter Try.func21, Try.ntmps21
  go_wp2_with fail
  generalize w.alloc (.cells (madeCells #[.float .f64 0] n) 24) = wa at HST HB0 ⊢
  clear hmk
  go_loopw [11] (fun vi wr => ∃ (k : Nat), vi = .int .i64 k ∧ k ≤ n ∧ Hid (∃ v l, v = .slice (some ⟨w.heap.size, 0, none⟩) n n ∧ OwnF wr w.heap.size v l ∧ l.length = n ∧ l = (xs.take k).map rawB ++ List.replicate (n - k) 0) ∧ Hid (Below w.heap.size w wr)) (fun vi _ => n - (intOf vi).toNat)
  case atStart => exact ⟨0, rfl, by omega, HST, HB0⟩
  case round =>
    clear HST HB0
    obtain ⟨k, rfl, hkn, HST, HB0⟩ := hrel
    by_cases hlt : k < n
    · obtain ⟨ad, rfl, hc0⟩ := RdF.get (Reads.below H1.out HB0.out) hlt
      obtain ⟨v, l, rfl, ho, hl, hle⟩ := HST.out
      have hcell := OwnF.cell hl ho hlt
      have hfree := OwnF.free hl ho k
      have hset := OwnF.set hl ho k (rawB (xs.getD k default))
      have HN : Hid (∃ v l, v = .slice (some ⟨w.heap.size, 0, none⟩) n n ∧ OwnF (wr.setCell ⟨w.heap.size, k, none⟩ (.float .f64 (rawB (xs.getD k default)))) w.heap.size v l ∧ l.length = n ∧ l = (xs.take (k + 1)).map rawB ++ List.replicate (n - (k + 1)) 0) := by
        refine ⟨_, _, rfl, hset.1, by rw [List.length_set]; exact hl, ?_⟩
        rw [hle]; exact fill_step rawB xs k n (by have := HX.out; omega) HX.out
      have HB1 : Hid (Below w.heap.size w (wr.setCell ⟨w.heap.size, k, none⟩ (.float .f64 (rawB (xs.getD k default))))) := HB0.out.setCell (p := ⟨w.heap.size, k, none⟩) (Nat.le_refl _) _
      have hcl := clean_c (xs.getD k default)
      clear hset ho hl hle HST
      generalize xs.getD k default = x at *
      go_wp2_with (go_at_call 17; refine (hcl _).mono ?_; rintro e w' ⟨rfl, rfl⟩)
      go_roundw
      case rel => exact ⟨k + 1, by go_num, by omega, HN, HB1⟩
      case measure => simp [intOf]; omega
    · have hk : k = n := by omega
      obtain ⟨v, l, rfl, ho, hl, hle⟩ := HST.out
      have hl2 : l = xs.map rawB := by rw [hle, hk, List.take_of_length_le (by rw [HX.out]; exact Nat.le_refl _)]; simp
      have hok2 : ∀ x ∈ l, W64 x := by
        intro x hx
        rw [hl2] at hx
        obtain ⟨y, hy, rfl⟩ := List.mem_map.1 hx
        exact rawB_lt (HOK.out y hy)
      have hrow : Row wr w.heap.size l := by subst hl; exact OwnF.row ho hok2
      have hs := fun wx => sortstable_c w.heap.size n n l hl wr wx
      have hc2 := hs wr ⟨hrow, World.grownBy.refl _ _⟩ (by omega)
      have HL2 := Lib.hid hl2
      have HLl := Lib.hid hl
      clear hs hrow hok2 hl2 hl hle ho hk HST
      have hlt' : ¬ (k : Int) < (n : Int) := by omega
      go_wp2_with fail
      refine hc2.mono ?_
      rintro e w2 ⟨rfl, hs⟩
      have HS := Lib.hid hs
      clear hs hc2
      go_wp2
      go_ret
      refine ⟨_, _, rfl, ?_, ?_⟩
      · have := HS.out.1.rd
        rw [ssort_length, HLl.out, HL2.out] at this
        exact Reads.more this (Nat.le_refl _)
      · exact HB0.out.grown HS.out.2 HB0.out.size (fun k hk => by injection hk with hk; omega)
end Go.Proofs.Ytngjfeielpnnnaa
