/-
  slices.symMergeCmpFunc over []float64: it merges two sorted runs, stably; both runs sorted, neither empty.
-/
import Derived.Test.YtngjfeielpnnnaaSortSym2
import Derived.Deep.Cut
namespace Go.Proofs.Ytngjfeielpnnnaa
open Go.RowKit
open FloatPlain
open Stable
set_option linter.unusedVariables false
set_option linter.unusedSimpArgs false
attribute [local go_sem] run_frombits run_bits u64_signed run_store_float

/-- What a call of the merge does, for runs of n elements together. -/
def SymSaid (cap N n : Nat) : Prop := ∀ (g : Nat) (P A B Q : List Nat) (a m b : Nat), A.length + B.length ≤ n → (P ++ (A ++ (B ++ Q))).length = N → P.length = a → a + A.length = m → m + B.length = b → 0 < A.length → 0 < B.length → Srt ltK A → Srt ltK B →
    ∀ (w0 w : World), SortW w0 g (P ++ (A ++ (B ++ Q))) w →
    Calls Try.prog 115 #[.slice (some ⟨g, 0, none⟩) N cap, .int .i64 a, .int .i64 m, .int .i64 b, .func (.func 66) #[] #[]] w fun e w' => e = .returned (.tuple #[]) ∧ SortW w0 g (P ++ (mrg ltK A B ++ Q)) w'

set_option maxHeartbeats 4000000 in
set_option maxRecDepth 100000 in
theorem sym3_c (cap N n : Nat) (IH : SymSaid cap N n) (g : Nat) (P A B Q : List Nat) (a m b : Nat) (hn : A.length + B.length ≤ n + 1) (hN : (P ++ (A ++ (B ++ Q))).length = N) (ha : P.length = a) (hm : a + A.length = m) (hb : m + B.length = b) (hA0 : 1 < A.length) (hB0 : 1 < B.length) (hA : Srt ltK A) (hB : Srt ltK B)
    (w0 w : World) (hS : SortW w0 g (P ++ (A ++ (B ++ Q))) w) (hc : N < 4611686018427387904) :
    Calls Try.prog 115 #[.slice (some ⟨g, 0, none⟩) N cap, .int .i64 a, .int .i64 m, .int .i64 b, .func (.func 66) #[] #[]] w fun e w' => e = .returned (.tuple #[]) ∧ SortW w0 g (P ++ (mrg ltK A B ++ Q)) w' := by
  have HS := Lib.hid hS
  have HNn := Lib.hid hN
  have HIH := Lib.hid IH
  have hbN : b ≤ N := by simp at hN; omega
  have ham : a + 1 < m := by omega
  have hmb : m + 1 < b := by omega
  have hbn : b ≤ a + n + 1 := by omega
  have ht : ((m : Int) - (a : Int) == 1) = false := by rw [beq_eq_false_iff_ne]; omega
  have ht2 : ((b : Int) - (m : Int) == 1) = false := by rw [beq_eq_false_iff_ne]; omega
  obtain ⟨mid, hmid⟩ : ∃ mid, mid = (a + b) / 2 := ⟨_, rfl⟩
  have hmid1 : a + b ≤ 2 * mid + 1 := by omega
  have hmid2 : 2 * mid ≤ a + b := by omega
  have HMID := Lib.hid hmid
  obtain ⟨st, r0, hst⟩ : ∃ st r0 : Nat, (mid < m → st + b = mid + m ∧ r0 = mid) ∧ (¬ mid < m → st = a ∧ r0 = m) := by
    by_cases h : mid < m
    · exact ⟨mid + m - b, mid, fun _ => ⟨by omega, rfl⟩, fun h' => absurd h h'⟩
    · exact ⟨a, m, fun h' => absurd h' h, fun _ => ⟨rfl, rfl⟩⟩
  have hst1 : a ≤ st := by
    by_cases h : mid < m
    · have := hst.1 h; omega
    · have := hst.2 h; omega
  have hst2 : st ≤ r0 := by
    by_cases h : mid < m
    · have := hst.1 h; omega
    · have := hst.2 h; omega
  have hst3 : r0 ≤ m := by
    by_cases h : mid < m
    · have := hst.1 h; omega
    · have := hst.2 h; omega
  have hst4 : r0 ≤ mid := by
    by_cases h : mid < m
    · have := hst.1 h; omega
    · have := hst.2 h; omega
  have hst5 : mid + m ≤ st + b := by
    by_cases h : mid < m
    · have := hst.1 h; omega
    · have := hst.2 h; omega
  have HLo : Hid (∀ c c', a ≤ c' → c' ≤ c → c < m → c < mid → mid + m ≤ c' + b → ltK ((P ++ (A ++ (B ++ Q))).getD (mid + m - 1 - c) default) ((P ++ (A ++ (B ++ Q))).getD c default) = false → ltK ((P ++ (A ++ (B ++ Q))).getD (mid + m - 1 - c') default) ((P ++ (A ++ (B ++ Q))).getD c' default) = false) :=
    fun c c' h1 h2 h3 h4 h5 e => sym3_step_lo swoK P A B Q hA hB (mid + m - 1) c c' (by omega) h2 (by omega) (by omega) (by omega) e
  have HHi : Hid (∀ c c', a ≤ c' → c' ≤ c → c < m → c < mid → mid + m ≤ c' + b → ltK ((P ++ (A ++ (B ++ Q))).getD (mid + m - 1 - c') default) ((P ++ (A ++ (B ++ Q))).getD c' default) = true → ltK ((P ++ (A ++ (B ++ Q))).getD (mid + m - 1 - c) default) ((P ++ (A ++ (B ++ Q))).getD c default) = true) :=
    fun c c' h1 h2 h3 h4 h5 e => sym3_step_hi swoK P A B Q hA hB (mid + m - 1) c c' (by omega) h2 (by omega) (by omega) (by omega) e
  have HFin : Hid (∀ s e, st ≤ s → s ≤ r0 → s + e = mid + m → (∀ h, st ≤ h → h < s → ltK ((P ++ (A ++ (B ++ Q))).getD (mid + m - 1 - h) default) ((P ++ (A ++ (B ++ Q))).getD h default) = false) → (∀ h, s ≤ h → h < r0 → ltK ((P ++ (A ++ (B ++ Q))).getD (mid + m - 1 - h) default) ((P ++ (A ++ (B ++ Q))).getD h default) = true) →
      ∃ A1 A2 B1 B2 : List Nat, P ++ (A ++ (B ++ Q)) = P ++ (A1 ++ (A2 ++ (B1 ++ (B2 ++ Q)))) ∧ mrg ltK A B = mrg ltK A1 B1 ++ mrg ltK A2 B2 ∧ a + A1.length = s ∧ s + A2.length = m ∧ m + B1.length = e ∧ e + B2.length = b ∧ Srt ltK A1 ∧ Srt ltK A2 ∧ Srt ltK B1 ∧ Srt ltK B2 ∧ P.length = a) := by
    intro s e h1 h2 h3 h4 h5
    have hfin := sym3_fin swoK P A B Q hA hB s e (by omega) (by omega) (by omega) (by omega)
      (by
        by_cases g1 : st < s
        · right; right
          have := h4 (s - 1) (by omega) (by omega)
          rw [show mid + m - 1 - (s - 1) = e by omega] at this; exact this
        · by_cases h : mid < m
          · have := hst.1 h; right; left; omega
          · have := hst.2 h; left; omega)
      (by
        by_cases g1 : s < r0
        · right; right
          have := h5 s (by omega) (by omega)
          rw [show mid + m - 1 - s = e - 1 by omega] at this; exact this
        · by_cases h : mid < m
          · have := hst.1 h; right; left; omega
          · have := hst.2 h; left; omega)
    refine ⟨A.take (s - a), A.drop (s - a), B.take (e - m), B.drop (e - m), ?_, ?_, ?_, ?_, ?_, ?_, ?_, ?_, ?_, ?_, ha⟩
    · rw [← List.append_assoc (A.take _), List.take_append_drop, ← List.append_assoc (B.take _), List.take_append_drop]
    · rw [show P.length = a from ha, show a + A.length = m from hm] at hfin; exact hfin
    · rw [List.length_take]; omega
    · rw [List.length_drop]; omega
    · rw [List.length_take]; omega
    · rw [List.length_drop]; omega
    · exact List.Pairwise.sublist (List.take_sublist _ _) hA
    · exact List.Pairwise.sublist (List.drop_sublist _ _) hA
    · exact List.Pairwise.sublist (List.take_sublist _ _) hB
    · exact List.Pairwise.sublist (List.drop_sublist _ _) hB
  have hlN : (P ++ (A ++ (B ++ Q))).length = N := hN
  generalize hl : P ++ (A ++ (B ++ Q)) = l at *
  have HLl := Lib.hid hl
  clear hl hS hN ha hm hb hA0 hB0 hA hB hn IH HNn
  have HNn := Lib.hid hlN
  clear hlN hmid
  generalize hTT : P ++ (mrg ltK A B ++ Q) = T
  have HTT := Lib.hid hTT
  clear hTT
  have hsti := hst
  clear hst
  go_enter Try.func115, Try.ntmps115
  go_upto_region 25 with fail
  rw [show ((a : Int) + (b : Int)) / 2 = (mid : Int) by have := HMID.out; omega]
  by_cases hmm : mid < m
  · have hs1 : st + b = mid + m := (hsti.1 hmm).1
    have hs2 : r0 = mid := (hsti.1 hmm).2
    have HS1 : Hid ((mid : Int) + (m : Int) - (b : Int) = (st : Int)) := by show _ = _; omega
    have HS2 := Lib.hid hs2
    clear hs1 hs2 hsti
    go_wp2_with fail
    rw [HS1.out]
    go_loopw [20, 21] (fun vi vj wr => ∃ (i j : Nat), vi = .int .i64 i ∧ vj = .int .i64 j ∧ st ≤ i ∧ i ≤ j ∧ j ≤ r0 ∧ Hid (SortW w0 g l wr) ∧ Hid (∀ h, st ≤ h → h < i → ltK (l.getD (mid + m - 1 - h) default) (l.getD h default) = false) ∧ Hid (∀ h, j ≤ h → h < r0 → ltK (l.getD (mid + m - 1 - h) default) (l.getD h default) = true)) (fun vi vj _ => (intOf vj).toNat - (intOf vi).toNat)
    case atStart => exact ⟨st, r0, rfl, by rw [HS2.out], Nat.le_refl _, hst2, Nat.le_refl _, HS, fun h h1 h2 => by omega, fun h h1 h2 => by omega⟩
    case round =>
      clear HS
      obtain ⟨i, j, rfl, rfl, hmi, hij, hjb, HR, H1, H2⟩ := hrel
      by_cases hlt : i < j
      · have c1 := HR.out.1.cell (mid + m - 1 - (i + j) / 2) (by have := HNn.out; omega)
        have c2 := HR.out.1.cell ((i + j) / 2) (by have := HNn.out; omega)
        have hcmp := fun n => sortcmp_c (l.getD (mid + m - 1 - (i + j) / 2) default) (l.getD ((i + j) / 2) default) (HR.out.1.mem (by have := HNn.out; omega)) (HR.out.1.mem (by have := HNn.out; omega)) (wr.drewN n)
        have hlt0 := cmpK_lt (l.getD (mid + m - 1 - (i + j) / 2) default) (l.getD ((i + j) / 2) default)
        have H1' : Hid (ltK (l.getD (mid + m - 1 - (i + j) / 2) default) (l.getD ((i + j) / 2) default) = false → ∀ h, st ≤ h → h < (i + j) / 2 + 1 → ltK (l.getD (mid + m - 1 - h) default) (l.getD h default) = false) := fun e h g1 g2 => HLo.out ((i + j) / 2) h (by omega) (by omega) (by omega) (by omega) (by omega) e
        have H2' : Hid (ltK (l.getD (mid + m - 1 - (i + j) / 2) default) (l.getD ((i + j) / 2) default) = true → ∀ h, (i + j) / 2 ≤ h → h < r0 → ltK (l.getD (mid + m - 1 - h) default) (l.getD h default) = true) := fun e h g1 g2 => HHi.out h ((i + j) / 2) (by omega) g1 (by omega) (by omega) (by omega) e
        generalize hy : l.getD ((i + j) / 2) default = y at c2 hcmp hlt0 H1' H2'
        generalize hz : l.getD (mid + m - 1 - (i + j) / 2) default = z at c1 hcmp hlt0 H1' H2'
        clear hy hz
        have e1 : (((i : Int) + j) / 2).toNat = (i + j) / 2 := by omega
        have e2 : (0 : Int) ≤ ((i : Int) + j) / 2 := by omega
        have e3 : ((i : Int) + j) / 2 < (N : Int) := by omega
        have e4 : ((mid : Int) + (m : Int) - 1 - ((i : Int) + j) / 2).toNat = mid + m - 1 - (i + j) / 2 := by omega
        have e5 : (0 : Int) ≤ (mid : Int) + (m : Int) - 1 - ((i : Int) + j) / 2 := by omega
        have e6 : (mid : Int) + (m : Int) - 1 - ((i : Int) + j) / 2 < (N : Int) := by omega
        have e7 : IntKind.i64.wrap ((mid : Int) + (m : Int) - 1 - ((i : Int) + j) / 2) = (mid : Int) + (m : Int) - 1 - ((i : Int) + j) / 2 := by rw [IntKind.wrap_i64]; omega
        cases hlv : ltK z y with
        | true =>
          rw [hlv] at hlt0
          have HL := Lib.hid hlv
          clear hlv
          go_wp2_with fail
          go_quiet (first | (go_at_call 66; exact quiet_left (hcmp _)))
          have HR2 : Hid (SortW w0 g l (wr.drewN nq)) := HR.out.drewN nq
          clear c1 c2 hcmp HR
          generalize wr.drewN nq = w2 at HR2 ⊢
          go_wp2
          go_roundw
          case rel => exact ⟨i, (i + j) / 2, rfl, by go_num, hmi, by omega, by omega, HR2, H1, H2'.out HL.out⟩
          case measure => simp [intOf]; omega
        | false =>
          rw [hlv] at hlt0
          have HL := Lib.hid hlv
          clear hlv
          go_wp2_with fail
          go_quiet (first | (go_at_call 66; exact quiet_left (hcmp _)))
          have HR2 : Hid (SortW w0 g l (wr.drewN nq)) := HR.out.drewN nq
          clear c1 c2 hcmp HR
          generalize wr.drewN nq = w2 at HR2 ⊢
          go_wp2
          go_roundw
          case rel => exact ⟨(i + j) / 2 + 1, j, by go_num, rfl, by omega, by omega, hjb, HR2, H1'.out HL.out, H2⟩
          case measure => simp [intOf]; omega
      · have hij' : i = j := by omega
        obtain ⟨e, he⟩ : ∃ e, i + e = mid + m := ⟨mid + m - i, by omega⟩
        have HF := Lib.hid (HFin.out i e hmi (by omega) he H1.out (by rw [hij']; exact H2.out))
        have hje : j ≤ i := by omega
        have he1 : m ≤ e := by omega
        have he2 : e ≤ b := by omega
        have he3 : mid ≤ e := by omega
        have HE : Hid ((mid : Int) + (m : Int) - (i : Int) = (e : Int)) := by show _ = _; omega
        have hl1 : e + i ≤ mid + m := by omega
        have hl2 : mid + m ≤ e + i := by omega
        clear H1 H2 HFin HLo HHi hij' he
        go_upto_region 39 with fail
        rw [HE.out]
        obtain ⟨A1, A2, B1, B2, q1, q2, q3, q4, q5, q6, q7, q8, q9, q10, q11⟩ := HF.out
        rw [q1] at HR
        have HT9 : Hid (T = P ++ ((mrg ltK A1 B1 ++ mrg ltK A2 B2) ++ Q)) := by show _ = _; rw [← HTT.out, q2]
        have HNN : Hid ((P ++ (A1 ++ (A2 ++ (B1 ++ (B2 ++ Q))))).length = N) := by show _ = _; rw [← q1]; exact HNn.out
        have Q3 := Lib.hid q3
        have Q4 := Lib.hid q4
        have Q5 := Lib.hid q5
        have Q6 := Lib.hid q6
        have Q11 := Lib.hid q11
        have HSO : Hid (Srt ltK A1 ∧ Srt ltK A2 ∧ Srt ltK B1 ∧ Srt ltK B2) := ⟨q7, q8, q9, q10⟩
        clear q1 q2 q3 q4 q5 q6 q7 q8 q9 q10 q11 HF HE HNn HLl
        by_cases d1 : i < m
        · by_cases d2 : m < e
          · have d3 : i < mid := by omega
            have d4 : mid < e := by omega
            go_wp2_with fail
            refine (rot_c g cap (P ++ A1) A2 B1 (B2 ++ Q) N i m e (by have h1 := HNN.out; have h3 := Q3.out; have h4 := Q4.out; have h5 := Q5.out; have h6 := Q6.out; have h7 := Q11.out; simp only [List.length_append] at h1 ⊢; omega) (by have h1 := HNN.out; have h3 := Q3.out; have h4 := Q4.out; have h5 := Q5.out; have h6 := Q6.out; have h7 := Q11.out; simp only [List.length_append] at h1 ⊢; omega) (by have h3 := Q3.out; have h4 := Q4.out; have h5 := Q5.out; have h6 := Q6.out; have h7 := Q11.out; omega) (by have h3 := Q3.out; have h4 := Q4.out; have h5 := Q5.out; have h6 := Q6.out; have h7 := Q11.out; omega) (by have h3 := Q3.out; have h4 := Q4.out; have h5 := Q5.out; have h6 := Q6.out; have h7 := Q11.out; omega) (by have h3 := Q3.out; have h4 := Q4.out; have h5 := Q5.out; have h6 := Q6.out; have h7 := Q11.out; omega) _ w0 _ (by have := HR.out; simpa using this) hc).mono ?_
            rintro er w1 ⟨rfl, hs⟩
            have HT1 : Hid (SortW w0 g (P ++ (A1 ++ (B1 ++ (A2 ++ (B2 ++ Q))))) w1) := by show SortW _ _ _ _; simpa using hs
            clear hs HR
            by_cases d5 : a < i
            · have dd : True := trivial
              go_wp2_with fail
              refine (HIH.out g P A1 B1 (A2 ++ (B2 ++ Q)) a i mid (by have h3 := Q3.out; have h4 := Q4.out; have h5 := Q5.out; have h6 := Q6.out; have h7 := Q11.out; omega) (by have h1 := HNN.out; have h3 := Q3.out; have h4 := Q4.out; have h5 := Q5.out; have h6 := Q6.out; have h7 := Q11.out; simp only [List.length_append] at h1 ⊢; omega) Q11.out Q3.out (by have h3 := Q3.out; have h4 := Q4.out; have h5 := Q5.out; have h6 := Q6.out; have h7 := Q11.out; omega) (by have h3 := Q3.out; have h4 := Q4.out; have h5 := Q5.out; have h6 := Q6.out; have h7 := Q11.out; omega) (by have h3 := Q3.out; have h4 := Q4.out; have h5 := Q5.out; have h6 := Q6.out; have h7 := Q11.out; omega) HSO.out.1 HSO.out.2.2.1 w0 _ HT1.out).mono ?_
              rintro er w2 ⟨rfl, hs⟩
              have HT2 := Lib.hid hs
              clear hs HT1
              by_cases d6 : e < b
              · have dd2 : True := trivial
                go_wp2_with fail
                refine (HIH.out g (P ++ mrg ltK A1 B1) A2 B2 Q mid e b (by have h3 := Q3.out; have h4 := Q4.out; have h5 := Q5.out; have h6 := Q6.out; have h7 := Q11.out; omega) (by have h1 := HNN.out; have h3 := Q3.out; have h4 := Q4.out; have h5 := Q5.out; have h6 := Q6.out; have h7 := Q11.out; have h8 := mrg_length ltK _ A1 B1 rfl; simp only [List.length_append] at h1 ⊢; omega) (by have h1 := HNN.out; have h3 := Q3.out; have h4 := Q4.out; have h5 := Q5.out; have h6 := Q6.out; have h7 := Q11.out; have h8 := mrg_length ltK _ A1 B1 rfl; simp only [List.length_append] at h1 ⊢; omega) (by have h3 := Q3.out; have h4 := Q4.out; have h5 := Q5.out; have h6 := Q6.out; have h7 := Q11.out; omega) Q6.out (by have h3 := Q3.out; have h4 := Q4.out; have h5 := Q5.out; have h6 := Q6.out; have h7 := Q11.out; omega) (by have h3 := Q3.out; have h4 := Q4.out; have h5 := Q5.out; have h6 := Q6.out; have h7 := Q11.out; omega) HSO.out.2.1 HSO.out.2.2.2 w0 _ (by have := HT2.out; simpa using this)).mono ?_
                rintro er w3 ⟨rfl, hs⟩
                have HT3 : Hid (SortW w0 g (P ++ ((mrg ltK A1 B1 ++ mrg ltK A2 B2) ++ Q)) w3) := by show SortW _ _ _ _; simpa using hs
                clear hs HT2
                go_wp2
                go_end0
                exact ⟨rfl, by rw [HT9.out]; exact HT3.out⟩
              · have dd2 : True := trivial
                have hz : B2 = [] := List.eq_nil_of_length_eq_zero (by have h3 := Q3.out; have h4 := Q4.out; have h5 := Q5.out; have h6 := Q6.out; have h7 := Q11.out; omega)
                have HT3 : Hid (SortW w0 g (P ++ ((mrg ltK A1 B1 ++ mrg ltK A2 B2) ++ Q)) w2) := by show SortW _ _ _ _; have := HT2.out; rw [hz] at this ⊢; (first | rw [nil_mrg ltK B2] | rw [mrg_nil ltK A2]); simpa using this
                clear hz HT2
                go_wp2
                go_end0
                exact ⟨rfl, by rw [HT9.out]; exact HT3.out⟩
            · have dd : True := trivial
              have hz : A1 = [] := List.eq_nil_of_length_eq_zero (by have h3 := Q3.out; have h4 := Q4.out; have h5 := Q5.out; have h6 := Q6.out; have h7 := Q11.out; omega)
              have HT2 : Hid (SortW w0 g (P ++ (mrg ltK A1 B1 ++ (A2 ++ (B2 ++ Q)))) w1) := by show SortW _ _ _ _; have := HT1.out; rw [hz] at this ⊢; (first | rw [nil_mrg] | rw [mrg_nil]); simpa using this
              clear hz HT1
              by_cases d6 : e < b
              · have dd2 : True := trivial
                go_wp2_with fail
                refine (HIH.out g (P ++ mrg ltK A1 B1) A2 B2 Q mid e b (by have h3 := Q3.out; have h4 := Q4.out; have h5 := Q5.out; have h6 := Q6.out; have h7 := Q11.out; omega) (by have h1 := HNN.out; have h3 := Q3.out; have h4 := Q4.out; have h5 := Q5.out; have h6 := Q6.out; have h7 := Q11.out; have h8 := mrg_length ltK _ A1 B1 rfl; simp only [List.length_append] at h1 ⊢; omega) (by have h1 := HNN.out; have h3 := Q3.out; have h4 := Q4.out; have h5 := Q5.out; have h6 := Q6.out; have h7 := Q11.out; have h8 := mrg_length ltK _ A1 B1 rfl; simp only [List.length_append] at h1 ⊢; omega) (by have h3 := Q3.out; have h4 := Q4.out; have h5 := Q5.out; have h6 := Q6.out; have h7 := Q11.out; omega) Q6.out (by have h3 := Q3.out; have h4 := Q4.out; have h5 := Q5.out; have h6 := Q6.out; have h7 := Q11.out; omega) (by have h3 := Q3.out; have h4 := Q4.out; have h5 := Q5.out; have h6 := Q6.out; have h7 := Q11.out; omega) HSO.out.2.1 HSO.out.2.2.2 w0 _ (by have := HT2.out; simpa using this)).mono ?_
                rintro er w3 ⟨rfl, hs⟩
                have HT3 : Hid (SortW w0 g (P ++ ((mrg ltK A1 B1 ++ mrg ltK A2 B2) ++ Q)) w3) := by show SortW _ _ _ _; simpa using hs
                clear hs HT2
                go_wp2
                go_end0
                exact ⟨rfl, by rw [HT9.out]; exact HT3.out⟩
              · have dd2 : True := trivial
                have hz : B2 = [] := List.eq_nil_of_length_eq_zero (by have h3 := Q3.out; have h4 := Q4.out; have h5 := Q5.out; have h6 := Q6.out; have h7 := Q11.out; omega)
                have HT3 : Hid (SortW w0 g (P ++ ((mrg ltK A1 B1 ++ mrg ltK A2 B2) ++ Q)) w1) := by show SortW _ _ _ _; have := HT2.out; rw [hz] at this ⊢; (first | rw [nil_mrg ltK B2] | rw [mrg_nil ltK A2]); simpa using this
                clear hz HT2
                go_wp2
                go_end0
                exact ⟨rfl, by rw [HT9.out]; exact HT3.out⟩
          · have d3 : ¬ i < mid := by omega
            have d4 : mid < e := by omega
            have d5 : a < i := by omega
            have d6 : e < b := by omega
            have hz : B1 = [] := List.eq_nil_of_length_eq_zero (by have h3 := Q3.out; have h4 := Q4.out; have h5 := Q5.out; have h6 := Q6.out; have h7 := Q11.out; omega)
            have HT1 : Hid (SortW w0 g (P ++ (A1 ++ (B1 ++ (A2 ++ (B2 ++ Q))))) wr) := by show SortW _ _ _ _; have := HR.out; rw [hz] at this ⊢; simpa using this
            clear hz HR
            have hz : B1 = [] := List.eq_nil_of_length_eq_zero (by have h3 := Q3.out; have h4 := Q4.out; have h5 := Q5.out; have h6 := Q6.out; have h7 := Q11.out; omega)
            have HT2 : Hid (SortW w0 g (P ++ (mrg ltK A1 B1 ++ (A2 ++ (B2 ++ Q)))) wr) := by show SortW _ _ _ _; have := HT1.out; rw [hz] at this ⊢; (first | rw [nil_mrg] | rw [mrg_nil]); simpa using this
            clear hz HT1
            go_wp2_with fail
            refine (HIH.out g (P ++ mrg ltK A1 B1) A2 B2 Q mid e b (by have h3 := Q3.out; have h4 := Q4.out; have h5 := Q5.out; have h6 := Q6.out; have h7 := Q11.out; omega) (by have h1 := HNN.out; have h3 := Q3.out; have h4 := Q4.out; have h5 := Q5.out; have h6 := Q6.out; have h7 := Q11.out; have h8 := mrg_length ltK _ A1 B1 rfl; simp only [List.length_append] at h1 ⊢; omega) (by have h1 := HNN.out; have h3 := Q3.out; have h4 := Q4.out; have h5 := Q5.out; have h6 := Q6.out; have h7 := Q11.out; have h8 := mrg_length ltK _ A1 B1 rfl; simp only [List.length_append] at h1 ⊢; omega) (by have h3 := Q3.out; have h4 := Q4.out; have h5 := Q5.out; have h6 := Q6.out; have h7 := Q11.out; omega) Q6.out (by have h3 := Q3.out; have h4 := Q4.out; have h5 := Q5.out; have h6 := Q6.out; have h7 := Q11.out; omega) (by have h3 := Q3.out; have h4 := Q4.out; have h5 := Q5.out; have h6 := Q6.out; have h7 := Q11.out; omega) HSO.out.2.1 HSO.out.2.2.2 w0 _ (by have := HT2.out; simpa using this)).mono ?_
            rintro er w3 ⟨rfl, hs⟩
            have HT3 : Hid (SortW w0 g (P ++ ((mrg ltK A1 B1 ++ mrg ltK A2 B2) ++ Q)) w3) := by show SortW _ _ _ _; simpa using hs
            clear hs HT2
            go_wp2
            go_end0
            exact ⟨rfl, by rw [HT9.out]; exact HT3.out⟩
        · have d4 : ¬ mid < e := by omega
          have d5 : a < i := by omega
          have hz : A2 = [] := List.eq_nil_of_length_eq_zero (by have h3 := Q3.out; have h4 := Q4.out; have h5 := Q5.out; have h6 := Q6.out; have h7 := Q11.out; omega)
          have HT1 : Hid (SortW w0 g (P ++ (A1 ++ (B1 ++ (A2 ++ (B2 ++ Q))))) wr) := by show SortW _ _ _ _; have := HR.out; rw [hz] at this ⊢; simpa using this
          clear hz HR
          by_cases d3 : i < mid
          · have dd : True := trivial
            go_wp2_with fail
            refine (HIH.out g P A1 B1 (A2 ++ (B2 ++ Q)) a i mid (by have h3 := Q3.out; have h4 := Q4.out; have h5 := Q5.out; have h6 := Q6.out; have h7 := Q11.out; omega) (by have h1 := HNN.out; have h3 := Q3.out; have h4 := Q4.out; have h5 := Q5.out; have h6 := Q6.out; have h7 := Q11.out; simp only [List.length_append] at h1 ⊢; omega) Q11.out Q3.out (by have h3 := Q3.out; have h4 := Q4.out; have h5 := Q5.out; have h6 := Q6.out; have h7 := Q11.out; omega) (by have h3 := Q3.out; have h4 := Q4.out; have h5 := Q5.out; have h6 := Q6.out; have h7 := Q11.out; omega) (by have h3 := Q3.out; have h4 := Q4.out; have h5 := Q5.out; have h6 := Q6.out; have h7 := Q11.out; omega) HSO.out.1 HSO.out.2.2.1 w0 _ HT1.out).mono ?_
            rintro er w2 ⟨rfl, hs⟩
            have HT2 := Lib.hid hs
            clear hs HT1
            have hz : A2 = [] := List.eq_nil_of_length_eq_zero (by have h3 := Q3.out; have h4 := Q4.out; have h5 := Q5.out; have h6 := Q6.out; have h7 := Q11.out; omega)
            have HT3 : Hid (SortW w0 g (P ++ ((mrg ltK A1 B1 ++ mrg ltK A2 B2) ++ Q)) w2) := by show SortW _ _ _ _; have := HT2.out; rw [hz] at this ⊢; (first | rw [nil_mrg ltK B2] | rw [mrg_nil ltK A2]); simpa using this
            clear hz HT2
            go_wp2
            go_end0
            exact ⟨rfl, by rw [HT9.out]; exact HT3.out⟩
          · have dd : True := trivial
            have hz : B1 = [] := List.eq_nil_of_length_eq_zero (by have h3 := Q3.out; have h4 := Q4.out; have h5 := Q5.out; have h6 := Q6.out; have h7 := Q11.out; omega)
            have HT2 : Hid (SortW w0 g (P ++ (mrg ltK A1 B1 ++ (A2 ++ (B2 ++ Q)))) wr) := by show SortW _ _ _ _; have := HT1.out; rw [hz] at this ⊢; (first | rw [nil_mrg] | rw [mrg_nil]); simpa using this
            clear hz HT1
            have hz : A2 = [] := List.eq_nil_of_length_eq_zero (by have h3 := Q3.out; have h4 := Q4.out; have h5 := Q5.out; have h6 := Q6.out; have h7 := Q11.out; omega)
            have HT3 : Hid (SortW w0 g (P ++ ((mrg ltK A1 B1 ++ mrg ltK A2 B2) ++ Q)) wr) := by show SortW _ _ _ _; have := HT2.out; rw [hz] at this ⊢; (first | rw [nil_mrg ltK B2] | rw [mrg_nil ltK A2]); simpa using this
            clear hz HT2
            go_wp2
            go_end0
            exact ⟨rfl, by rw [HT9.out]; exact HT3.out⟩
  · have hs1 : st = a := (hsti.2 hmm).1
    have hs2 : r0 = m := (hsti.2 hmm).2
    have HS1 := Lib.hid hs1
    have HS2 := Lib.hid hs2
    clear hs1 hs2 hsti
    go_wp2_with fail
    go_loopw [20, 21] (fun vi vj wr => ∃ (i j : Nat), vi = .int .i64 i ∧ vj = .int .i64 j ∧ st ≤ i ∧ i ≤ j ∧ j ≤ r0 ∧ Hid (SortW w0 g l wr) ∧ Hid (∀ h, st ≤ h → h < i → ltK (l.getD (mid + m - 1 - h) default) (l.getD h default) = false) ∧ Hid (∀ h, j ≤ h → h < r0 → ltK (l.getD (mid + m - 1 - h) default) (l.getD h default) = true)) (fun vi vj _ => (intOf vj).toNat - (intOf vi).toNat)
    case atStart => exact ⟨st, r0, by rw [HS1.out], by rw [HS2.out], Nat.le_refl _, hst2, Nat.le_refl _, HS, fun h h1 h2 => by omega, fun h h1 h2 => by omega⟩
    case round =>
      clear HS
      obtain ⟨i, j, rfl, rfl, hmi, hij, hjb, HR, H1, H2⟩ := hrel
      by_cases hlt : i < j
      · have c1 := HR.out.1.cell (mid + m - 1 - (i + j) / 2) (by have := HNn.out; omega)
        have c2 := HR.out.1.cell ((i + j) / 2) (by have := HNn.out; omega)
        have hcmp := fun n => sortcmp_c (l.getD (mid + m - 1 - (i + j) / 2) default) (l.getD ((i + j) / 2) default) (HR.out.1.mem (by have := HNn.out; omega)) (HR.out.1.mem (by have := HNn.out; omega)) (wr.drewN n)
        have hlt0 := cmpK_lt (l.getD (mid + m - 1 - (i + j) / 2) default) (l.getD ((i + j) / 2) default)
        have H1' : Hid (ltK (l.getD (mid + m - 1 - (i + j) / 2) default) (l.getD ((i + j) / 2) default) = false → ∀ h, st ≤ h → h < (i + j) / 2 + 1 → ltK (l.getD (mid + m - 1 - h) default) (l.getD h default) = false) := fun e h g1 g2 => HLo.out ((i + j) / 2) h (by omega) (by omega) (by omega) (by omega) (by omega) e
        have H2' : Hid (ltK (l.getD (mid + m - 1 - (i + j) / 2) default) (l.getD ((i + j) / 2) default) = true → ∀ h, (i + j) / 2 ≤ h → h < r0 → ltK (l.getD (mid + m - 1 - h) default) (l.getD h default) = true) := fun e h g1 g2 => HHi.out h ((i + j) / 2) (by omega) g1 (by omega) (by omega) (by omega) e
        generalize hy : l.getD ((i + j) / 2) default = y at c2 hcmp hlt0 H1' H2'
        generalize hz : l.getD (mid + m - 1 - (i + j) / 2) default = z at c1 hcmp hlt0 H1' H2'
        clear hy hz
        have e1 : (((i : Int) + j) / 2).toNat = (i + j) / 2 := by omega
        have e2 : (0 : Int) ≤ ((i : Int) + j) / 2 := by omega
        have e3 : ((i : Int) + j) / 2 < (N : Int) := by omega
        have e4 : ((mid : Int) + (m : Int) - 1 - ((i : Int) + j) / 2).toNat = mid + m - 1 - (i + j) / 2 := by omega
        have e5 : (0 : Int) ≤ (mid : Int) + (m : Int) - 1 - ((i : Int) + j) / 2 := by omega
        have e6 : (mid : Int) + (m : Int) - 1 - ((i : Int) + j) / 2 < (N : Int) := by omega
        have e7 : IntKind.i64.wrap ((mid : Int) + (m : Int) - 1 - ((i : Int) + j) / 2) = (mid : Int) + (m : Int) - 1 - ((i : Int) + j) / 2 := by rw [IntKind.wrap_i64]; omega
        cases hlv : ltK z y with
        | true =>
          rw [hlv] at hlt0
          have HL := Lib.hid hlv
          clear hlv
          go_wp2_with fail
          go_quiet (first | (go_at_call 66; exact quiet_left (hcmp _)))
          have HR2 : Hid (SortW w0 g l (wr.drewN nq)) := HR.out.drewN nq
          clear c1 c2 hcmp HR
          generalize wr.drewN nq = w2 at HR2 ⊢
          go_wp2
          go_roundw
          case rel => exact ⟨i, (i + j) / 2, rfl, by go_num, hmi, by omega, by omega, HR2, H1, H2'.out HL.out⟩
          case measure => simp [intOf]; omega
        | false =>
          rw [hlv] at hlt0
          have HL := Lib.hid hlv
          clear hlv
          go_wp2_with fail
          go_quiet (first | (go_at_call 66; exact quiet_left (hcmp _)))
          have HR2 : Hid (SortW w0 g l (wr.drewN nq)) := HR.out.drewN nq
          clear c1 c2 hcmp HR
          generalize wr.drewN nq = w2 at HR2 ⊢
          go_wp2
          go_roundw
          case rel => exact ⟨(i + j) / 2 + 1, j, by go_num, rfl, by omega, by omega, hjb, HR2, H1'.out HL.out, H2⟩
          case measure => simp [intOf]; omega
      · have hij' : i = j := by omega
        obtain ⟨e, he⟩ : ∃ e, i + e = mid + m := ⟨mid + m - i, by omega⟩
        have HF := Lib.hid (HFin.out i e hmi (by omega) he H1.out (by rw [hij']; exact H2.out))
        have hje : j ≤ i := by omega
        have he1 : m ≤ e := by omega
        have he2 : e ≤ b := by omega
        have he3 : mid ≤ e := by omega
        have HE : Hid ((mid : Int) + (m : Int) - (i : Int) = (e : Int)) := by show _ = _; omega
        have hl1 : e + i ≤ mid + m := by omega
        have hl2 : mid + m ≤ e + i := by omega
        clear H1 H2 HFin HLo HHi hij' he
        go_upto_region 39 with fail
        rw [HE.out]
        obtain ⟨A1, A2, B1, B2, q1, q2, q3, q4, q5, q6, q7, q8, q9, q10, q11⟩ := HF.out
        rw [q1] at HR
        have HT9 : Hid (T = P ++ ((mrg ltK A1 B1 ++ mrg ltK A2 B2) ++ Q)) := by show _ = _; rw [← HTT.out, q2]
        have HNN : Hid ((P ++ (A1 ++ (A2 ++ (B1 ++ (B2 ++ Q))))).length = N) := by show _ = _; rw [← q1]; exact HNn.out
        have Q3 := Lib.hid q3
        have Q4 := Lib.hid q4
        have Q5 := Lib.hid q5
        have Q6 := Lib.hid q6
        have Q11 := Lib.hid q11
        have HSO : Hid (Srt ltK A1 ∧ Srt ltK A2 ∧ Srt ltK B1 ∧ Srt ltK B2) := ⟨q7, q8, q9, q10⟩
        clear q1 q2 q3 q4 q5 q6 q7 q8 q9 q10 q11 HF HE HNn HLl
        by_cases d1 : i < m
        · by_cases d2 : m < e
          · have d3 : i < mid := by omega
            have d4 : mid < e := by omega
            go_wp2_with fail
            refine (rot_c g cap (P ++ A1) A2 B1 (B2 ++ Q) N i m e (by have h1 := HNN.out; have h3 := Q3.out; have h4 := Q4.out; have h5 := Q5.out; have h6 := Q6.out; have h7 := Q11.out; simp only [List.length_append] at h1 ⊢; omega) (by have h1 := HNN.out; have h3 := Q3.out; have h4 := Q4.out; have h5 := Q5.out; have h6 := Q6.out; have h7 := Q11.out; simp only [List.length_append] at h1 ⊢; omega) (by have h3 := Q3.out; have h4 := Q4.out; have h5 := Q5.out; have h6 := Q6.out; have h7 := Q11.out; omega) (by have h3 := Q3.out; have h4 := Q4.out; have h5 := Q5.out; have h6 := Q6.out; have h7 := Q11.out; omega) (by have h3 := Q3.out; have h4 := Q4.out; have h5 := Q5.out; have h6 := Q6.out; have h7 := Q11.out; omega) (by have h3 := Q3.out; have h4 := Q4.out; have h5 := Q5.out; have h6 := Q6.out; have h7 := Q11.out; omega) _ w0 _ (by have := HR.out; simpa using this) hc).mono ?_
            rintro er w1 ⟨rfl, hs⟩
            have HT1 : Hid (SortW w0 g (P ++ (A1 ++ (B1 ++ (A2 ++ (B2 ++ Q))))) w1) := by show SortW _ _ _ _; simpa using hs
            clear hs HR
            by_cases d5 : a < i
            · have dd : True := trivial
              go_wp2_with fail
              refine (HIH.out g P A1 B1 (A2 ++ (B2 ++ Q)) a i mid (by have h3 := Q3.out; have h4 := Q4.out; have h5 := Q5.out; have h6 := Q6.out; have h7 := Q11.out; omega) (by have h1 := HNN.out; have h3 := Q3.out; have h4 := Q4.out; have h5 := Q5.out; have h6 := Q6.out; have h7 := Q11.out; simp only [List.length_append] at h1 ⊢; omega) Q11.out Q3.out (by have h3 := Q3.out; have h4 := Q4.out; have h5 := Q5.out; have h6 := Q6.out; have h7 := Q11.out; omega) (by have h3 := Q3.out; have h4 := Q4.out; have h5 := Q5.out; have h6 := Q6.out; have h7 := Q11.out; omega) (by have h3 := Q3.out; have h4 := Q4.out; have h5 := Q5.out; have h6 := Q6.out; have h7 := Q11.out; omega) HSO.out.1 HSO.out.2.2.1 w0 _ HT1.out).mono ?_
              rintro er w2 ⟨rfl, hs⟩
              have HT2 := Lib.hid hs
              clear hs HT1
              by_cases d6 : e < b
              · have dd2 : True := trivial
                go_wp2_with fail
                refine (HIH.out g (P ++ mrg ltK A1 B1) A2 B2 Q mid e b (by have h3 := Q3.out; have h4 := Q4.out; have h5 := Q5.out; have h6 := Q6.out; have h7 := Q11.out; omega) (by have h1 := HNN.out; have h3 := Q3.out; have h4 := Q4.out; have h5 := Q5.out; have h6 := Q6.out; have h7 := Q11.out; have h8 := mrg_length ltK _ A1 B1 rfl; simp only [List.length_append] at h1 ⊢; omega) (by have h1 := HNN.out; have h3 := Q3.out; have h4 := Q4.out; have h5 := Q5.out; have h6 := Q6.out; have h7 := Q11.out; have h8 := mrg_length ltK _ A1 B1 rfl; simp only [List.length_append] at h1 ⊢; omega) (by have h3 := Q3.out; have h4 := Q4.out; have h5 := Q5.out; have h6 := Q6.out; have h7 := Q11.out; omega) Q6.out (by have h3 := Q3.out; have h4 := Q4.out; have h5 := Q5.out; have h6 := Q6.out; have h7 := Q11.out; omega) (by have h3 := Q3.out; have h4 := Q4.out; have h5 := Q5.out; have h6 := Q6.out; have h7 := Q11.out; omega) HSO.out.2.1 HSO.out.2.2.2 w0 _ (by have := HT2.out; simpa using this)).mono ?_
                rintro er w3 ⟨rfl, hs⟩
                have HT3 : Hid (SortW w0 g (P ++ ((mrg ltK A1 B1 ++ mrg ltK A2 B2) ++ Q)) w3) := by show SortW _ _ _ _; simpa using hs
                clear hs HT2
                go_wp2
                go_end0
                exact ⟨rfl, by rw [HT9.out]; exact HT3.out⟩
              · have dd2 : True := trivial
                have hz : B2 = [] := List.eq_nil_of_length_eq_zero (by have h3 := Q3.out; have h4 := Q4.out; have h5 := Q5.out; have h6 := Q6.out; have h7 := Q11.out; omega)
                have HT3 : Hid (SortW w0 g (P ++ ((mrg ltK A1 B1 ++ mrg ltK A2 B2) ++ Q)) w2) := by show SortW _ _ _ _; have := HT2.out; rw [hz] at this ⊢; (first | rw [nil_mrg ltK B2] | rw [mrg_nil ltK A2]); simpa using this
                clear hz HT2
                go_wp2
                go_end0
                exact ⟨rfl, by rw [HT9.out]; exact HT3.out⟩
            · have dd : True := trivial
              have hz : A1 = [] := List.eq_nil_of_length_eq_zero (by have h3 := Q3.out; have h4 := Q4.out; have h5 := Q5.out; have h6 := Q6.out; have h7 := Q11.out; omega)
              have HT2 : Hid (SortW w0 g (P ++ (mrg ltK A1 B1 ++ (A2 ++ (B2 ++ Q)))) w1) := by show SortW _ _ _ _; have := HT1.out; rw [hz] at this ⊢; (first | rw [nil_mrg] | rw [mrg_nil]); simpa using this
              clear hz HT1
              by_cases d6 : e < b
              · have dd2 : True := trivial
                go_wp2_with fail
                refine (HIH.out g (P ++ mrg ltK A1 B1) A2 B2 Q mid e b (by have h3 := Q3.out; have h4 := Q4.out; have h5 := Q5.out; have h6 := Q6.out; have h7 := Q11.out; omega) (by have h1 := HNN.out; have h3 := Q3.out; have h4 := Q4.out; have h5 := Q5.out; have h6 := Q6.out; have h7 := Q11.out; have h8 := mrg_length ltK _ A1 B1 rfl; simp only [List.length_append] at h1 ⊢; omega) (by have h1 := HNN.out; have h3 := Q3.out; have h4 := Q4.out; have h5 := Q5.out; have h6 := Q6.out; have h7 := Q11.out; have h8 := mrg_length ltK _ A1 B1 rfl; simp only [List.length_append] at h1 ⊢; omega) (by have h3 := Q3.out; have h4 := Q4.out; have h5 := Q5.out; have h6 := Q6.out; have h7 := Q11.out; omega) Q6.out (by have h3 := Q3.out; have h4 := Q4.out; have h5 := Q5.out; have h6 := Q6.out; have h7 := Q11.out; omega) (by have h3 := Q3.out; have h4 := Q4.out; have h5 := Q5.out; have h6 := Q6.out; have h7 := Q11.out; omega) HSO.out.2.1 HSO.out.2.2.2 w0 _ (by have := HT2.out; simpa using this)).mono ?_
                rintro er w3 ⟨rfl, hs⟩
                have HT3 : Hid (SortW w0 g (P ++ ((mrg ltK A1 B1 ++ mrg ltK A2 B2) ++ Q)) w3) := by show SortW _ _ _ _; simpa using hs
                clear hs HT2
                go_wp2
                go_end0
                exact ⟨rfl, by rw [HT9.out]; exact HT3.out⟩
              · have dd2 : True := trivial
                have hz : B2 = [] := List.eq_nil_of_length_eq_zero (by have h3 := Q3.out; have h4 := Q4.out; have h5 := Q5.out; have h6 := Q6.out; have h7 := Q11.out; omega)
                have HT3 : Hid (SortW w0 g (P ++ ((mrg ltK A1 B1 ++ mrg ltK A2 B2) ++ Q)) w1) := by show SortW _ _ _ _; have := HT2.out; rw [hz] at this ⊢; (first | rw [nil_mrg ltK B2] | rw [mrg_nil ltK A2]); simpa using this
                clear hz HT2
                go_wp2
                go_end0
                exact ⟨rfl, by rw [HT9.out]; exact HT3.out⟩
          · have d3 : ¬ i < mid := by omega
            have d4 : mid < e := by omega
            have d5 : a < i := by omega
            have d6 : e < b := by omega
            have hz : B1 = [] := List.eq_nil_of_length_eq_zero (by have h3 := Q3.out; have h4 := Q4.out; have h5 := Q5.out; have h6 := Q6.out; have h7 := Q11.out; omega)
            have HT1 : Hid (SortW w0 g (P ++ (A1 ++ (B1 ++ (A2 ++ (B2 ++ Q))))) wr) := by show SortW _ _ _ _; have := HR.out; rw [hz] at this ⊢; simpa using this
            clear hz HR
            have hz : B1 = [] := List.eq_nil_of_length_eq_zero (by have h3 := Q3.out; have h4 := Q4.out; have h5 := Q5.out; have h6 := Q6.out; have h7 := Q11.out; omega)
            have HT2 : Hid (SortW w0 g (P ++ (mrg ltK A1 B1 ++ (A2 ++ (B2 ++ Q)))) wr) := by show SortW _ _ _ _; have := HT1.out; rw [hz] at this ⊢; (first | rw [nil_mrg] | rw [mrg_nil]); simpa using this
            clear hz HT1
            go_wp2_with fail
            refine (HIH.out g (P ++ mrg ltK A1 B1) A2 B2 Q mid e b (by have h3 := Q3.out; have h4 := Q4.out; have h5 := Q5.out; have h6 := Q6.out; have h7 := Q11.out; omega) (by have h1 := HNN.out; have h3 := Q3.out; have h4 := Q4.out; have h5 := Q5.out; have h6 := Q6.out; have h7 := Q11.out; have h8 := mrg_length ltK _ A1 B1 rfl; simp only [List.length_append] at h1 ⊢; omega) (by have h1 := HNN.out; have h3 := Q3.out; have h4 := Q4.out; have h5 := Q5.out; have h6 := Q6.out; have h7 := Q11.out; have h8 := mrg_length ltK _ A1 B1 rfl; simp only [List.length_append] at h1 ⊢; omega) (by have h3 := Q3.out; have h4 := Q4.out; have h5 := Q5.out; have h6 := Q6.out; have h7 := Q11.out; omega) Q6.out (by have h3 := Q3.out; have h4 := Q4.out; have h5 := Q5.out; have h6 := Q6.out; have h7 := Q11.out; omega) (by have h3 := Q3.out; have h4 := Q4.out; have h5 := Q5.out; have h6 := Q6.out; have h7 := Q11.out; omega) HSO.out.2.1 HSO.out.2.2.2 w0 _ (by have := HT2.out; simpa using this)).mono ?_
            rintro er w3 ⟨rfl, hs⟩
            have HT3 : Hid (SortW w0 g (P ++ ((mrg ltK A1 B1 ++ mrg ltK A2 B2) ++ Q)) w3) := by show SortW _ _ _ _; simpa using hs
            clear hs HT2
            go_wp2
            go_end0
            exact ⟨rfl, by rw [HT9.out]; exact HT3.out⟩
        · have d4 : ¬ mid < e := by omega
          have d5 : a < i := by omega
          have hz : A2 = [] := List.eq_nil_of_length_eq_zero (by have h3 := Q3.out; have h4 := Q4.out; have h5 := Q5.out; have h6 := Q6.out; have h7 := Q11.out; omega)
          have HT1 : Hid (SortW w0 g (P ++ (A1 ++ (B1 ++ (A2 ++ (B2 ++ Q))))) wr) := by show SortW _ _ _ _; have := HR.out; rw [hz] at this ⊢; simpa using this
          clear hz HR
          by_cases d3 : i < mid
          · have dd : True := trivial
            go_wp2_with fail
            refine (HIH.out g P A1 B1 (A2 ++ (B2 ++ Q)) a i mid (by have h3 := Q3.out; have h4 := Q4.out; have h5 := Q5.out; have h6 := Q6.out; have h7 := Q11.out; omega) (by have h1 := HNN.out; have h3 := Q3.out; have h4 := Q4.out; have h5 := Q5.out; have h6 := Q6.out; have h7 := Q11.out; simp only [List.length_append] at h1 ⊢; omega) Q11.out Q3.out (by have h3 := Q3.out; have h4 := Q4.out; have h5 := Q5.out; have h6 := Q6.out; have h7 := Q11.out; omega) (by have h3 := Q3.out; have h4 := Q4.out; have h5 := Q5.out; have h6 := Q6.out; have h7 := Q11.out; omega) (by have h3 := Q3.out; have h4 := Q4.out; have h5 := Q5.out; have h6 := Q6.out; have h7 := Q11.out; omega) HSO.out.1 HSO.out.2.2.1 w0 _ HT1.out).mono ?_
            rintro er w2 ⟨rfl, hs⟩
            have HT2 := Lib.hid hs
            clear hs HT1
            have hz : A2 = [] := List.eq_nil_of_length_eq_zero (by have h3 := Q3.out; have h4 := Q4.out; have h5 := Q5.out; have h6 := Q6.out; have h7 := Q11.out; omega)
            have HT3 : Hid (SortW w0 g (P ++ ((mrg ltK A1 B1 ++ mrg ltK A2 B2) ++ Q)) w2) := by show SortW _ _ _ _; have := HT2.out; rw [hz] at this ⊢; (first | rw [nil_mrg ltK B2] | rw [mrg_nil ltK A2]); simpa using this
            clear hz HT2
            go_wp2
            go_end0
            exact ⟨rfl, by rw [HT9.out]; exact HT3.out⟩
          · have dd : True := trivial
            have hz : B1 = [] := List.eq_nil_of_length_eq_zero (by have h3 := Q3.out; have h4 := Q4.out; have h5 := Q5.out; have h6 := Q6.out; have h7 := Q11.out; omega)
            have HT2 : Hid (SortW w0 g (P ++ (mrg ltK A1 B1 ++ (A2 ++ (B2 ++ Q)))) wr) := by show SortW _ _ _ _; have := HT1.out; rw [hz] at this ⊢; (first | rw [nil_mrg] | rw [mrg_nil]); simpa using this
            clear hz HT1
            have hz : A2 = [] := List.eq_nil_of_length_eq_zero (by have h3 := Q3.out; have h4 := Q4.out; have h5 := Q5.out; have h6 := Q6.out; have h7 := Q11.out; omega)
            have HT3 : Hid (SortW w0 g (P ++ ((mrg ltK A1 B1 ++ mrg ltK A2 B2) ++ Q)) wr) := by show SortW _ _ _ _; have := HT2.out; rw [hz] at this ⊢; (first | rw [nil_mrg ltK B2] | rw [mrg_nil ltK A2]); simpa using this
            clear hz HT2
            go_wp2
            go_end0
            exact ⟨rfl, by rw [HT9.out]; exact HT3.out⟩

theorem sym_c (cap N : Nat) (hc : N < 4611686018427387904) : ∀ n, SymSaid cap N n := by
  intro n
  induction n with
  | zero => intro g P A B Q a m b hn hN ha hm hb hA0; omega
  | succ n ih =>
    intro g P A B Q a m b hn hN ha hm hb hA0 hB0 hA hB w0 w hS
    by_cases h1 : A.length = 1
    · obtain ⟨x, rfl⟩ : ∃ x, A = [x] := by
        match A, h1 with
        | [x], _ => exact ⟨x, rfl⟩
      exact sym1_c g cap P x B Q N a m b hN ha (by simpa using hm) hb hB0 hB w0 w hS hc
    · by_cases h2 : B.length = 1
      · obtain ⟨y, rfl⟩ : ∃ y, B = [y] := by
          match B, h2 with
          | [y], _ => exact ⟨y, rfl⟩
        exact sym2_c g cap P A y Q N a m b hN ha hm (by simpa using hb) (by omega) hA w0 w hS hc
      · exact sym3_c cap N n ih g P A B Q a m b hn hN ha hm hb (by omega) (by omega) hA hB w0 w hS hc
end Go.Proofs.Ytngjfeielpnnnaa
