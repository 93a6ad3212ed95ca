/-
  FacBack FacBack2
-/
import Derived.Test.YtmhkalalcmkpbaaZFacR
import Derived.Test.YtmhkalalcmkpbaaZOrd
namespace Go.Proofs.Ytmhkalalcmkpbaa
open Go.RowKit
set_option linter.unusedVariables false

def txB (t : ByteArray) : List UInt8 := bytesN t.size ++ t.data.toList
theorem ext2_data (s : ByteArray) (a b : Nat) : (s.extract a b).data.toList = (s.data.toList.drop a).take (b - a) := by
  simp [ByteArray.data_extract]
theorem len_data (s : ByteArray) : s.data.toList.length = s.size := by rw [Array.length_toList]; rfl
theorem rdT_put (s t : ByteArray) (r : List UInt8) (h : t.size ≤ 65536) (hs : s.data.toList = txB t ++ r) : ∃ s', rdT (s, 0) = (t, (s', 0)) ∧ s'.data.toList = r := by
  have hs2 : s.data.toList = bytesN t.size ++ (t.data.toList ++ r) := by rw [hs, txB, List.append_assoc]
  have hr := numR_put t.size (t.data.toList ++ r) (by omega)
  rw [← hs2] at hr
  have hsz : s.size = (bytesN t.size).length + (t.size + r.length) := by
    rw [← len_data s, hs2, List.length_append, List.length_append, len_data]
  have ht : textR s = (t, (bytesN t.size).length + t.size, 0) := by
    unfold textR
    rw [hr]
    simp only
    rw [if_neg (by simp), if_neg (by omega), if_neg (by omega)]
    congr 1
    refine ba_ext ?_
    rw [ext2_data, hs2, List.drop_left, Nat.add_sub_cancel_left, ← len_data t, List.take_left]
  refine ⟨s.extract ((bytesN t.size).length + t.size) s.size, ?_, ?_⟩
  · unfold rdT
    rw [ht]
    rfl
  · rw [ext_data, hs2, ← len_data t, ← List.drop_drop, List.drop_left, List.drop_left]
theorem rdT_back (s : ByteArray) (e : Int) (h : (rdT (s, e)).2.2 = 0) : e = 0 ∧ s.data.toList = txB (rdT (s, e)).1 ++ (rdT (s, e)).2.1.data.toList ∧ (rdT (s, e)).1.size ≤ 65536 := by
  by_cases he : e = 0
  · subst he
    refine ⟨rfl, ?_, rdT_text _⟩
    by_cases h1 : (textR s).2.2 = 0
    · have e1 : rdT (s, 0) = ((textR s).1, (s.extract (textR s).2.1 s.size, 0)) := by
        unfold rdT; rw [if_neg (by simp), if_neg (by simpa using h1)]
      rw [e1]
      unfold textR at h1 ⊢
      by_cases h2 : (numR s.data.toList).1 = 0
      · rw [if_neg (by simpa using h2)] at h1 ⊢
        by_cases h3 : 65536 < (numR s.data.toList).2.1
        · rw [if_pos h3] at h1; cases h1
        · rw [if_neg h3] at h1 ⊢
          by_cases h4 : s.size - (numR s.data.toList).2.2 < (numR s.data.toList).2.1
          · rw [if_pos h4] at h1; cases h1
          · rw [if_neg h4] at h1 ⊢
            obtain ⟨k1, k2, k3, k4⟩ := numR_back _ h2
            rw [len_data] at k2
            generalize (numR s.data.toList).2.1 = n at *
            generalize (numR s.data.toList).2.2 = k at *
            have hsz : (s.extract k (k + n)).size = n := by rw [ByteArray.size_extract]; omega
            simp only
            unfold txB
            rw [hsz, ext2_data, ext_data, ← k1, Nat.add_sub_cancel_left, ← List.drop_drop, List.append_assoc, List.take_append_drop, List.take_append_drop]
      · rw [if_pos (by simpa using h2)] at h1; exact absurd h1 (by simpa using h2)
    · exfalso
      have e1 : rdT (s, 0) = (⟨#[]⟩, (s, (textR s).2.2)) := by
        unfold rdT; rw [if_neg (by simp), if_pos (by simpa using h1)]
      rw [e1] at h; exact h1 h
  · have e1 : rdT (s, e) = (⟨#[]⟩, (s, e)) := by unfold rdT; rw [if_pos he]
    rw [e1] at h; exact absurd h he

def factD (f : FactT) : List UInt8 := bytesN f.1.1.toNat ++ (bytesN f.1.2.toNat ++ (bytesN f.2.1.1.toNat ++ (bytesN f.2.1.2.1.toNat ++ (bytesN f.2.2.1.toNat ++ (txB f.2.2.2.1 ++ txB f.2.2.2.2)))))
def okN (n : Int) : Prop := 0 ≤ n ∧ n ≤ 9007199254740992
structure OkB (f : FactT) : Prop where
  n1 : okN f.1.1
  n2 : okN f.1.2
  n3 : okN f.2.1.1
  n4 : okN f.2.1.2.1
  n5 : okN f.2.2.1
  same : f.2.1.2.2 = f.1.1
  t1 : f.2.2.2.1.size ≤ 65536
  t2 : f.2.2.2.2.size ≤ 65536
theorem txS_data (t : ByteArray) (h : t.size ≤ 65536) : (txS t).data.toList = txB t := by
  unfold txS txB
  rw [if_neg (by omega), app_data, numS_data _ (by omega) (by omega), Int.toNat_natCast]
theorem factB_data (f : FactT) (h : OkB f) : (factB f).data.toList = factD f := by
  unfold factB factD
  rw [app_data, cat_data, cat_data]
  simp only [numsF, txsF, List.map_cons, List.map_nil, List.flatMap_cons, List.flatMap_nil, List.append_nil, numS_data _ h.n1.1 h.n1.2, numS_data _ h.n2.1 h.n2.2, numS_data _ h.n3.1 h.n3.2, numS_data _ h.n4.1 h.n4.2, numS_data _ h.n5.1 h.n5.2, txS_data _ h.t1, txS_data _ h.t2, List.append_assoc]
theorem rdF_put (s : ByteArray) (f : FactT) (h : OkB f) (r : List UInt8) (hs : s.data.toList = factD f ++ r) : ∃ s', rdF (s, 0) = (f, (s', 0)) ∧ s'.data.toList = r := by
  unfold factD at hs
  simp only [List.append_assoc] at hs
  have g : ∀ n : Int, okN n → n.toNat ≤ 9007199254740992 := fun n hn => by have := hn.1; have := hn.2; omega
  obtain ⟨s1, e1, d1⟩ := rdN_put s _ _ (g _ h.n1) hs
  obtain ⟨s2, e2, d2⟩ := rdN_put s1 _ _ (g _ h.n2) d1
  obtain ⟨s3, e3, d3⟩ := rdN_put s2 _ _ (g _ h.n3) d2
  obtain ⟨s4, e4, d4⟩ := rdN_put s3 _ _ (g _ h.n4) d3
  obtain ⟨s5, e5, d5⟩ := rdN_put s4 _ _ (g _ h.n5) d4
  obtain ⟨s6, e6, d6⟩ := rdT_put s5 _ _ h.t1 d5
  obtain ⟨s7, e7, d7⟩ := rdT_put s6 _ _ h.t2 d6
  refine ⟨s7, ?_, d7⟩
  have c1 : rF1 (s, 0) = (s1, 0) := by unfold rF1; rw [e1]
  have c2 : rF2 (s, 0) = (s2, 0) := by unfold rF2; rw [c1, e2]
  have c3 : rF3 (s, 0) = (s3, 0) := by unfold rF3; rw [c2, e3]
  have c4 : rF4 (s, 0) = (s4, 0) := by unfold rF4; rw [c3, e4]
  have c5 : rF5 (s, 0) = (s5, 0) := by unfold rF5; rw [c4, e5]
  have c6 : rF6 (s, 0) = (s6, 0) := by unfold rF6; rw [c5, e6]
  have c7 : rF7 (s, 0) = (s7, 0) := by unfold rF7; rw [c6, e7]
  unfold rdF
  rw [c1, c2, c3, c4, c5, c6, c7, e1, e2, e3, e4, e5, e6, e7]
  obtain ⟨⟨f1, f2⟩, ⟨f3, f4, f5⟩, f6, f7, f8⟩ := f
  have hsame : f5 = f1 := h.same
  subst hsame
  simp only [Int.toNat_of_nonneg h.n1.1, Int.toNat_of_nonneg h.n2.1, Int.toNat_of_nonneg h.n3.1, Int.toNat_of_nonneg h.n4.1, Int.toNat_of_nonneg h.n5.1]
theorem rdF_back (s : ByteArray) (e : Int) (h : (rdF (s, e)).2.2 = 0) : e = 0 ∧ s.data.toList = factD (rdF (s, e)).1 ++ (rdF (s, e)).2.1.data.toList ∧ OkB (rdF (s, e)).1 := by
  have p : ∀ x : ByteArray × Int, (x.1, x.2) = x := fun _ => rfl
  have h7 : (rdT (rF6 (s, e))).2.2 = 0 := h
  obtain ⟨a6, b6, c6⟩ := rdT_back (rF6 (s, e)).1 (rF6 (s, e)).2 h7
  have h6 : (rdT (rF5 (s, e))).2.2 = 0 := a6
  obtain ⟨a5, b5, c5⟩ := rdT_back (rF5 (s, e)).1 (rF5 (s, e)).2 h6
  have h5 : (rdN (rF4 (s, e))).2.2 = 0 := a5
  obtain ⟨a4, b4, c4⟩ := rdN_back (rF4 (s, e)).1 (rF4 (s, e)).2 h5
  have h4 : (rdN (rF3 (s, e))).2.2 = 0 := a4
  obtain ⟨a3, b3, c3⟩ := rdN_back (rF3 (s, e)).1 (rF3 (s, e)).2 h4
  have h3 : (rdN (rF2 (s, e))).2.2 = 0 := a3
  obtain ⟨a2, b2, c2⟩ := rdN_back (rF2 (s, e)).1 (rF2 (s, e)).2 h3
  have h2 : (rdN (rF1 (s, e))).2.2 = 0 := a2
  obtain ⟨a1, b1, c1⟩ := rdN_back (rF1 (s, e)).1 (rF1 (s, e)).2 h2
  have h1 : (rdN (s, e)).2.2 = 0 := a1
  obtain ⟨a0, b0, c0⟩ := rdN_back s e h1
  refine ⟨a0, ?_, ⟨?_, ?_, ?_, ?_, ?_, rfl, c5, c6⟩⟩
  · unfold factD rdF
    simp only [Int.toNat_natCast, List.append_assoc]
    refine b0.trans (congrArg (bytesN _ ++ ·) (b1.trans (congrArg (bytesN _ ++ ·) (b2.trans (congrArg (bytesN _ ++ ·) (b3.trans (congrArg (bytesN _ ++ ·) (b4.trans (congrArg (bytesN _ ++ ·) (b5.trans (congrArg (txB _ ++ ·) b6)))))))))))
  · exact ⟨Int.natCast_nonneg _, by have := c0; show ((rdN (s, e)).1 : Int) ≤ _; omega⟩
  · exact ⟨Int.natCast_nonneg _, by have : (rdN (rF1 (s, e))).1 ≤ 9007199254740992 := c1; show ((rdN (rF1 (s, e))).1 : Int) ≤ _; omega⟩
  · exact ⟨Int.natCast_nonneg _, by have : (rdN (rF2 (s, e))).1 ≤ 9007199254740992 := c2; show ((rdN (rF2 (s, e))).1 : Int) ≤ _; omega⟩
  · exact ⟨Int.natCast_nonneg _, by have : (rdN (rF3 (s, e))).1 ≤ 9007199254740992 := c3; show ((rdN (rF3 (s, e))).1 : Int) ≤ _; omega⟩
  · exact ⟨Int.natCast_nonneg _, by have : (rdN (rF4 (s, e))).1 ≤ 9007199254740992 := c4; show ((rdN (rF4 (s, e))).1 : Int) ≤ _; omega⟩

def flatFD (l : List FactT) : List UInt8 := l.flatMap factD
theorem factsB_data (l : List FactT) (h : ∀ f ∈ l, OkB f) : (factsB l).data.toList = flatFD l := by
  unfold factsB flatFD
  rw [cat_data, List.flatMap_map]
  induction l with
  | nil => rfl
  | cons x l ih => rw [List.flatMap_cons, List.flatMap_cons, ih (fun f hf => h f (by simp [hf])), factB_data x (h x (by simp))]
theorem rdFs_put : ∀ (l : List FactT) (s : ByteArray), (∀ f ∈ l, OkB f) → ∀ r, s.data.toList = flatFD l ++ r → ∃ s', rdFs l.length (s, 0) = (l, (s', 0)) ∧ s'.data.toList = r := by
  intro l
  induction l with
  | nil => intro s _ r hs; exact ⟨s, rfl, by simpa [flatFD] using hs⟩
  | cons f l ih =>
    intro s h r hs
    have hs' : s.data.toList = factD f ++ (flatFD l ++ r) := by rw [hs]; unfold flatFD; rw [List.flatMap_cons, List.append_assoc]
    obtain ⟨s1, e1, d1⟩ := rdF_put s f (h f (by simp)) _ hs'
    obtain ⟨s2, e2, d2⟩ := ih s1 (fun x hx => h x (by simp [hx])) r d1
    refine ⟨s2, ?_, d2⟩
    rw [List.length_cons, rdFs_step _ _ rfl, e1]
    simp only [e2]
theorem rdFs_back : ∀ (n : Nat) (st : ByteArray × Int), (rdFs n st).2.2 = 0 → st.2 = 0 ∧ (rdFs n st).1.length = n ∧ st.1.data.toList = flatFD (rdFs n st).1 ++ (rdFs n st).2.1.data.toList ∧ ∀ f ∈ (rdFs n st).1, OkB f := by
  intro n
  induction n with
  | zero => intro st h; exact ⟨h, rfl, by simp [rdFs, flatFD], fun f hf => by simp [rdFs] at hf⟩
  | succ n ih =>
    intro st h
    by_cases he : st.2 = 0
    · rw [rdFs_step n st he] at h ⊢
      obtain ⟨h1, h2, h3, h4⟩ := ih _ h
      obtain ⟨g1, g2, g3⟩ := rdF_back st.1 st.2 h1
      refine ⟨he, by simp [h2], ?_, ?_⟩
      · show st.1.data.toList = flatFD ((rdF st).1 :: (rdFs n (rdF st).2).1) ++ (rdFs n (rdF st).2).2.1.data.toList
        unfold flatFD at h3 ⊢
        rw [List.flatMap_cons, List.append_assoc, ← h3]
        exact g2
      · intro f hf
        rcases List.mem_cons.1 hf with rfl | hf
        · exact g3
        · exact h4 f hf
    · exfalso
      rw [rdFs_stop _ st he] at h; exact he h
theorem chkF_ok {f : FactT} (h : chkF f = 0) : OkB f := by
  unfold chkF at h
  by_cases h1 : chk f.1 = 0
  · rw [if_neg (by simpa using h1)] at h
    by_cases h2 : chkS f.2.1 = 0
    · rw [if_neg (by simpa using h2)] at h
      by_cases h3 : f.1.1 = f.2.1.2.2
      · rw [if_neg (by simpa using h3)] at h
        by_cases h4 : f.2.2.1 < 1 ∨ 4 < f.2.2.1
        · rw [if_pos h4] at h; cases h
        · rw [if_neg h4] at h
          obtain ⟨a1, a2, a3, a4⟩ := chk_zero h1
          have hS : 0 ≤ f.2.1.1 ∧ f.2.1.1 ≤ 1099511627776 ∧ 0 ≤ f.2.1.2.1 ∧ f.2.1.2.1 ≤ 1099511627776 := by
            unfold chkS at h2; split at h2
            · cases h2
            · omega
          by_cases h5 : nameOk f.2.2.2.1 = true
          · have hn : f.2.2.2.1.size ≤ 64 := by have := of_decide_eq_true h5; omega
            have hv : f.2.2.2.2.size ≤ 65536 := by
              have h6 : valE f.2.2.1 f.2.2.2.2 = 0 := by
                rw [h5] at h
                simpa using h
              unfold valE at h6
              split at h6
              · split at h6
                · cases h6
                · omega
              · split at h6
                · split at h6
                  · cases h6
                  · omega
                · split at h6
                  · split at h6
                    · rename_i hh; have := of_decide_eq_true hh; omega
                    · cases h6
                  · split at h6
                    · split at h6
                      · cases h6
                      · omega
                    · have : f.2.2.1 = 1 ∨ f.2.2.1 = 2 ∨ f.2.2.1 = 3 ∨ f.2.2.1 = 4 := by omega
                      omega
            exact ⟨⟨by omega, by omega⟩, ⟨by omega, by omega⟩, ⟨by omega, by omega⟩, ⟨by omega, by omega⟩, ⟨by omega, by omega⟩, h3.symm, by omega, hv⟩
          · exfalso
            rw [Bool.not_eq_true] at h5
            rw [h5] at h
            revert h; simp
      · rw [if_pos h3] at h; cases h
    · rw [if_pos h2] at h; exact absurd h h2
  · rw [if_pos h1] at h; exact absurd h h1
end Go.Proofs.Ytmhkalalcmkpbaa

namespace Go.Proofs.Ytmhkalalcmkpbaa
open Go.RowKit
set_option linter.unusedVariables false

theorem may_zero {l : List FactT} (h : mayG chkF ltF l = 0) : ∀ f ∈ l, chkF f = 0 := by
  have hz : chkAll chkF l = 0 := by
    unfold mayG at h
    by_cases h1 : chkAll chkF l = 0
    · exact h1
    · rw [if_pos h1] at h; exact h
  clear h
  induction l with
  | nil => intro f hf; simp at hf
  | cons x l ih =>
    have h1 : chkF x = 0 := by
      unfold chkAll at hz
      by_cases g : chkF x = 0
      · exact g
      · rw [if_pos (by simpa using g)] at hz; exact hz
    have h2 : chkAll chkF l = 0 := by
      unfold chkAll at hz
      rw [if_neg (by simpa using h1)] at hz; exact hz
    intro f hf
    rcases List.mem_cons.1 hf with rfl | hf
    · exact h1
    · exact ih h2 f hf
theorem fputE_zero {l : List FactT} (h : fputE l = 0) : l.length ≤ 4096 ∧ mayG chkF ltF l = 0 := by
  unfold fputE at h
  by_cases h1 : 4096 < l.length
  · rw [if_pos h1] at h; cases h
  · rw [if_neg h1] at h; exact ⟨by omega, h⟩
theorem fread_put {l : List FactT} (h : fputE l = 0) : freadE (fputS l) = 0 ∧ freadL (fputS l) = l := by
  obtain ⟨hn, hm⟩ := fputE_zero h
  have hok : ∀ f ∈ l, OkB f := fun f hf => chkF_ok (may_zero hm f hf)
  have hd : (fputS l).data.toList = bytesN l.length ++ (flatFD l ++ []) := by
    rw [fputS_ok h, app_data, numS_data _ (by omega) (by omega), Int.toNat_natCast, factsB_data l hok, List.append_nil]
  obtain ⟨s1, e1, d1⟩ := rdN_put (fputS l) l.length _ (by omega) hd
  obtain ⟨s2, e2, d2⟩ := rdFs_put l s1 hok [] d1
  have hF : rF (fputS l) = (l, (s2, 0)) := by unfold rF; rw [e1]; exact e2
  have hs2 : s2.size = 0 := by rw [← len_data, d2]; rfl
  have hE : freadE (fputS l) = 0 := by
    unfold freadE
    rw [e1, hF]
    have hdn : doneE (s2, 0) = 0 := by unfold doneE; rw [if_neg (by simp), if_pos hs2]
    rw [if_neg (by simpa using hn)]
    simp only [hdn]
    rw [if_neg (by simp)]; exact hm
  refine ⟨hE, ?_⟩
  unfold freadL
  rw [if_neg (by simpa using hE), hF]
theorem fput_read {s : ByteArray} (h : freadE s = 0) : fputE (freadL s) = 0 ∧ fputS (freadL s) = s := by
  have hL : freadL s = (rF s).1 := by unfold freadL; rw [if_neg (by simpa using h)]
  unfold freadE at h
  by_cases h1 : 4096 < (rdN (s, 0)).1
  · rw [if_pos h1] at h; cases h
  · rw [if_neg h1] at h
    by_cases h2 : doneE (rF s).2 = 0
    · rw [if_neg (by simpa using h2)] at h
      have hd : (rF s).2.2 = 0 ∧ (rF s).2.1.size = 0 := by
        unfold doneE at h2
        by_cases a : (rF s).2.2 = 0
        · rw [if_neg (by simpa using a)] at h2
          by_cases b : (rF s).2.1.size = 0
          · exact ⟨a, b⟩
          · rw [if_neg b] at h2; cases h2
        · rw [if_pos a] at h2; exact absurd h2 a
      obtain ⟨g1, g2, g3, g4⟩ := rdFs_back _ _ hd.1
      obtain ⟨_, k2, k3⟩ := rdN_back s 0 g1
      have g2' : (rF s).1.length = (rdN (s, 0)).1 := g2
      have g3' : (rdN (s, 0)).2.1.data.toList = flatFD (rF s).1 ++ (rF s).2.1.data.toList := g3
      have g4' : ∀ f ∈ (rF s).1, OkB f := g4
      have hp : fputE (rF s).1 = 0 := by unfold fputE; rw [if_neg (by omega)]; exact h
      rw [hL]
      refine ⟨hp, ?_⟩
      rw [fputS_ok hp]
      refine ba_ext ?_
      rw [app_data, numS_data _ (by omega) (by omega), factsB_data _ g4', g2', Int.toNat_natCast, k2, g3']
      have : (rF s).2.1.data.toList = [] := List.eq_nil_of_length_eq_zero (by rw [len_data]; exact hd.2)
      rw [this, List.append_nil]
    · rw [if_pos h2] at h; exact absurd h h2

def oneF (r n : Int) (s t : ByteArray) : FactT := ((r, n), (n, 0, r), 3, s, t)
def awB : FactT := oneF 1 2 ⟨#[98]⟩ ⟨#[120]⟩
def awA : FactT := oneF 0 1 ⟨#[97]⟩ ⟨#[121]⟩
theorem aw_sort : sortK ltF [awB, awA, awB] = [awA, awB] := by kernel_rfl
theorem aw_put : fputE [awA, awB] = 0 := by kernel_rfl
theorem aw_chk1 : chkF ((1, 2), (2, 0, 2), 3, ⟨#[98]⟩, ⟨#[120]⟩) = 5 := by kernel_rfl
theorem aw_chk2 : chkF (oneF 1 2 ⟨#[]⟩ ⟨#[120]⟩) = 14 := by kernel_rfl
theorem aw_chk3 : chkF ((0, 0), (0, 0, 0), 0, ⟨#[]⟩, ⟨#[]⟩) = 2 := by kernel_rfl
theorem aw_less : ltF awA awB = true := by kernel_rfl
end Go.Proofs.Ytmhkalalcmkpbaa
