/-
  Del2 Cput Cread Lca C11 Lca2 Lca3 ReadS ReadCt ReadCt2
-/
import Derived.Test.YtmhkalalcmkpbaaZC8
import Derived.Test.YtmhkalalcmkpbaaZDel1
import Derived.Test.YtmhkalalcmkpbaaZFread
import Derived.Test.YtmhkalalcmkpbaaZLfrB
import Derived.Test.YtmhkalalcmkpbaaZMiss
import Derived.Test.YtmhkalalcmkpbaaZReadArg
import Derived.Test.YtmhkalalcmkpbaaZReadD
namespace Go.Proofs.Ytmhkalalcmkpbaa
open Go Go.RowKit
set_option linter.unusedVariables false
set_option linter.unusedSimpArgs false

theorem readD_len (s : ByteArray) : (readD s).1.length ≤ 4096 := by
  unfold readD
  split
  · simp
  · split
    · simp
    · split
      · simp
      · rename_i h _ _
        have key : ∀ (n : Nat) (st : ByteArray × Int), (rdL n st).1.length ≤ n := by
          intro n
          induction n with
          | zero => intro st; simp [rdL]
          | succ n ih =>
            intro st
            by_cases h : st.2 = 0
            · rw [rdL_step _ _ h]; have := ih (rdN (rdN st).2).2; simp; omega
            · rw [rdL_stop _ _ h]; simp
        have := key (rdN (s, 0)).1 (rdN (s, 0)).2
        show (rdL (rdN (s, 0)).1 (rdN (s, 0)).2).1.length ≤ 4096
        omega
theorem putSD_size (l : List (Int × Int)) : (putS l).size ≤ 8 + 16 * l.length := by
  unfold putS
  split
  · exact Nat.zero_le _
  · have h1 := putL_size l (numS l.length)
    have h2 := numS_size l.length
    omega
theorem dputE_err {d : DeltaT} (h : deltaE d ≠ 0) : dputE d = deltaE d := if_pos h
theorem dputE_long {d : DeltaT} (h : deltaE d = 0) {k : Nat} {t : ByteArray} (ht : (partsD d)[k]? = some t) (hl : 65536 < t.size) : dputE d = 3 := by
  have h2 : t ∈ partsD d := List.mem_of_getElem? ht
  simp only [partsD, List.mem_cons, List.not_mem_nil, or_false] at h2
  unfold dputE
  rw [if_neg (by simpa using h), if_pos]
  rcases h2 with rfl | rfl
  · exact .inl hl
  · exact .inr hl
theorem dputE_ok {d : DeltaT} (h : deltaE d = 0) (hl : ∀ (j : Nat) t, (partsD d)[j]? = some t → t.size ≤ 65536) : dputE d = 0 := by
  have h1 := hl 0 _ rfl
  have h2 := hl 1 _ rfl
  unfold dputE
  rw [if_neg (by simpa using h), if_neg (by omega)]
theorem dputS_err {d : DeltaT} (h : dputE d ≠ 0) : dputS d = ⟨#[]⟩ := if_pos h
theorem dputS_ok {d : DeltaT} (h : dputE d = 0) : dputS d = cat ((numsD d).map numS) ++ cat ((partsD d).map txS) := if_neg (by simpa using h)
theorem numsD_size (d : DeltaT) (k : Nat) : (cat (((numsD d).take k).map numS)).size ≤ 32 := by
  have h := cat_size (k := 8) (((numsD d).take k).map numS) fun x hx => by obtain ⟨n, _, rfl⟩ := List.mem_map.1 hx; exact numS_size n
  have h2 : (((numsD d).take k).map numS).length ≤ 4 := by rw [List.length_map, List.length_take]; exact Nat.min_le_right _ _
  omega
theorem partD_size {d : DeltaT} (ok : OkD d) {k : Nat} {t : ByteArray} (ht : (partsD d)[k]? = some t) : t.size < 9223372036854775807 := by
  have h2 : t ∈ partsD d := List.mem_of_getElem? ht
  simp only [partsD, List.mem_cons, List.not_mem_nil, or_false] at h2
  rcases h2 with rfl | rfl
  · exact fputS_size ok.of
  · have := putSD_size d.2.2.2; have := ok.ng; omega
theorem txE_no {t : ByteArray} (h : txE t = 0) : t.size ≤ 65536 := by
  unfold txE at h
  by_cases g : 65536 < t.size
  · rw [if_pos g] at h; cases h
  · omega
theorem txE_yes {t : ByteArray} (h : txE t ≠ 0) : 65536 < t.size ∧ txE t = 3 := by
  unfold txE at h ⊢
  by_cases g : 65536 < t.size
  · rw [if_pos g]; exact ⟨g, rfl⟩
  · rw [if_neg g] at h; exact absurd rfl h

set_option maxRecDepth 100000 in
theorem deput_p (d : DeltaT) (ok : OkD d) : PFn Try.prog False 15 [dlA d] (.tup [sA (dputS d), iA (dputE d)]) := by
  refine pfn Try.func15 rfl (by kernel_rfl) 79 rfl _ rfl (Nat.le_of_ble_eq_true rfl) (fun X w0 => ?_)
  refine wSeq ?_
  refine wReg ?_
  refine sBox rfl rfl rfl rfl rfl (fun g1 => ?_)
  refine sP rfl rfl rfl (pA rfl rfl) ?_
  refine sP rfl rfl rfl (pA rfl rfl) ?_
  refine lNil ?_
  refine wSeq ?_
  refine wSeq ?_
  refine wReg ?_
  refine sP rfl rfl rfl (pLdW 0 rfl rfl rfl ty29 rfl) ?_
  refine sP rfl rfl rfl (p_call rfl (delta_p d ok) ⟨Sub.refl, trivial⟩) ?_
  refine sP rfl rfl rfl (pA rfl rfl) ?_
  refine lNil ?_
  refine wSeq ?_
  refine wReg ?_
  refine sP rfl rfl rfl (pM rfl rfl) ?_
  refine sP rfl rfl rfl (p_icmp rfl rfl rfl rfl) ?_
  refine lNil ?_
  refine wCond rfl (fun hc1 => ?_) (fun hc1 => ?_)
  · refine wSeq ?_
    refine wReg ?_
    refine sP rfl rfl rfl (pM rfl rfl) ?_
    refine sP rfl rfl rfl (pA rfl rfl) ?_
    refine sP rfl rfl rfl (pA rfl rfl) ?_
    refine lNil ?_
    refine wRet ?_
    have h : deltaE d ≠ 0 := by simpa using hc1
    have he := dputE_err h
    exact rgs2 (rg_tmp (gives_sub (Sub.of_eq (avS (dputS_err (by rw [he]; exact h)).symm)))) (rg_tmp (gives_sub (Sub.of_eq (avI he.symm))))
  · have hz : deltaE d = 0 := by simpa using hc1
    refine wSkip ?_
    refine wSeq ?_
    refine wReg ?_
    refine sP rfl rfl rfl (pA rfl rfl) ?_
    refine lNil ?_
    refine wSeq ?_
    refine wSeq ?_
    refine wReg ?_
    refine sP rfl rfl rfl (p_fieldAddr_own rfl rfl fl29_0 ty23 (by decide)) ?_
    refine sP rfl rfl rfl (p_fieldAddr_own rfl rfl fl23_0 ty3 (by decide)) ?_
    refine sP rfl rfl rfl (pLdO1 0 rfl rfl rfl ty3 rfl) ?_
    refine sP rfl rfl rfl (p_fieldAddr_own rfl rfl fl29_0 ty23 (by decide)) ?_
    refine sP rfl rfl rfl (p_fieldAddr_own rfl rfl fl23_1 ty3 (by decide)) ?_
    refine sP rfl rfl rfl (pLdO1 0 rfl rfl rfl ty3 rfl) ?_
    refine sP rfl rfl rfl (p_fieldAddr_own rfl rfl fl29_1 ty25 (by decide)) ?_
    refine sP rfl rfl rfl (p_fieldAddr_own rfl rfl fl25_0 ty3 (by decide)) ?_
    refine sP rfl rfl rfl (pLdO1 0 rfl rfl rfl ty3 rfl) ?_
    refine sP rfl rfl rfl (p_fieldAddr_own rfl rfl fl29_1 ty25 (by decide)) ?_
    refine sP rfl rfl rfl (p_fieldAddr_own rfl rfl fl25_1 ty3 (by decide)) ?_
    refine sP rfl rfl rfl (pLdO1 0 rfl rfl rfl ty3 rfl) ?_
    refine sP rfl rfl rfl (p_build_arr (res := [iA d.1.1, iA d.1.2, iA d.2.1.1, iA d.2.1.2.1]) rfl ze100 Try.underlying100 ty3 rfl rfl) ?_
    refine sP rfl rfl rfl (pM rfl rfl) ?_
    refine lNil ?_
    refine wBlock ?_
    refine wLoop (fun mm L h => ∃ k s, mm = 4 - k ∧ k ≤ 4 ∧ s = cat (((numsD d).take k).map numS) ∧ L = [(1, .x (.pointer (some ⟨g1, 0, none⟩))), (5, sA s), (35, .agg ((numsD d).map iA)), (36, iA (k : Nat))] ∧ h = [.cells g1 29 (encDl d)]) ⟨_, _, _, _, ⟨0, _, rfl, Nat.zero_le _, rfl, rfl, rfl⟩, ⟨rfl, rfl, rfl, rfl, trivial⟩, rfl⟩ ?_
    rintro mm L h ⟨k, s, rfl, hk, hs, rfl, rfl⟩
    refine wSeq ?_
    refine wReg ?_
    refine sP rfl rfl rfl (p_icmp rfl rfl rfl rfl) ?_
    refine lNil ?_
    refine wSeq ?_
    refine wCond rfl (fun hc2 => ?_) (fun hc2 => ?_)
    · have hk5 : k < 4 := by have h := hc2; simp at h; omega
      obtain ⟨n, hx⟩ : ∃ n, (numsD d)[k]? = some n := getL (l := numsD d) hk5
      have hxA : ((numsD d).map iA)[k * 1]? = some (iA n) := by rw [Nat.mul_one, List.getElem?_map, hx]; rfl
      have hsz : s.size ≤ 32 := by rw [hs]; exact numsD_size d k
      have hnz := numS_size n
      refine wSkip ?_
      refine wSeq ?_
      refine wBlock ?_
      refine wSeq ?_
      refine wReg ?_
      refine sP rfl rfl rfl (p_index_arr rfl rfl Try.underlying100 ty3 rfl (i := k) rfl hk5 (.inr ⟨rfl, hxA⟩)) ?_
      refine sP rfl rfl rfl (pA rfl rfl) ?_
      refine lNil ?_
      refine wSeq ?_
      refine wReg ?_
      refine sP rfl rfl rfl (pM rfl rfl) ?_
      refine sP rfl rfl rfl (p_call rfl (num_p n) ⟨Sub.refl, trivial⟩) ?_
      refine sP rfl rfl rfl (pMt rfl rfl) ?_
      refine sP rfl rfl rfl (p_extract rfl rfl rfl) ?_
      refine sP rfl rfl rfl (p_extract rfl rfl rfl) ?_
      refine sP rfl rfl rfl (pA rfl rfl) ?_
      refine sP rfl rfl rfl (pA rfl rfl) ?_
      refine lNil ?_
      refine wReg ?_
      refine sP rfl rfl rfl (pM rfl rfl) ?_
      refine sP rfl rfl rfl (pM rfl rfl) ?_
      refine sP rfl rfl rfl (p_sadd rfl rfl rfl (by omega)) ?_
      refine sP rfl rfl rfl (pA rfl rfl) ?_
      refine lNil ?_
      refine wReg ?_
      refine sP rfl rfl rfl (p_iar rfl rfl rfl rfl) ?_
      refine sP rfl rfl rfl (pM rfl rfl) ?_
      refine lNil ?_
      refine ⟨_, _, [.cells g1 29 (encDl d)], [], ?_, ⟨k + 1, _, rfl, hk5, ?_, rfl, rfl⟩, ⟨rfl, rfl, rfl, avI (wrapI (by omega) (by omega)), trivial⟩, rfl⟩
      · omega
      · rw [hs]; exact (by have h := cat_take numS hx ⟨#[]⟩; rw [nil_app, nil_app] at h; exact h)
    · have hk6 : k = 4 := by have h := hc2; simp at h; omega
      subst hk6
      refine wExit ?_
      refine wSeq ?_
      refine wReg ?_
      refine sP rfl rfl rfl (p_fieldAddr_own rfl rfl fl29_2 ty26 (by decide)) ?_
      refine sP rfl rfl rfl (pLdO1 0 rfl rfl rfl ty26 rfl) ?_
      refine sP rfl rfl rfl (p_call rfl (fput_p d.2.2.1 ok.nf ok.of) ⟨Sub.refl, trivial⟩) ?_
      refine sP rfl rfl rfl (pMt rfl rfl) ?_
      refine sP rfl rfl rfl (p_extract rfl rfl rfl) ?_
      refine sP rfl rfl rfl (p_extract rfl rfl rfl) ?_
      refine sP rfl rfl rfl (pA rfl rfl) ?_
      refine sP rfl rfl rfl (pA rfl rfl) ?_
      refine lNil ?_
      refine wSeq ?_
      refine wReg ?_
      refine sP rfl rfl rfl (p_fieldAddr_own rfl rfl fl29_3 ty27 (by decide)) ?_
      refine sP rfl rfl rfl (pLdO1 0 rfl rfl rfl ty27 rfl) ?_
      refine sP rfl rfl rfl (p_call rfl (dput_p d.2.2.2 ok.ng) ⟨Sub.refl, trivial⟩) ?_
      refine sP rfl rfl rfl (pMt rfl rfl) ?_
      refine sP rfl rfl rfl (p_extract rfl rfl rfl) ?_
      refine sP rfl rfl rfl (p_extract rfl rfl rfl) ?_
      refine sP rfl rfl rfl (pA rfl rfl) ?_
      refine sP rfl rfl rfl (pA rfl rfl) ?_
      refine lNil ?_
      refine wSeq ?_
      refine wSeq ?_
      refine wReg ?_
      refine sP rfl rfl rfl (pM rfl rfl) ?_
      refine sP rfl rfl rfl (pM rfl rfl) ?_
      refine sP rfl rfl rfl (p_build_arr (res := [sA (fputS d.2.2.1), sA (putS d.2.2.2)]) rfl ze103 Try.underlying103 ty9 rfl rfl) ?_
      refine sP rfl rfl rfl (pM rfl rfl) ?_
      refine lNil ?_
      refine wBlock ?_
      refine wLoop (fun mm L h => ∃ k s, mm = 2 - k ∧ k ≤ 2 ∧ s = cat ((numsD d).map numS) ++ cat (((partsD d).take k).map txS) ∧ (∀ j t, j < k → (partsD d)[j]? = some t → t.size ≤ 65536) ∧ s.size ≤ 32 + k * 65544 ∧ L = [(5, sA s), (62, .agg ((partsD d).map sA)), (63, iA (k : Nat))] ∧ h = []) ⟨_, _, _, _, ⟨0, _, rfl, Nat.zero_le _, (by rw [hs]; show _ = _ ++ (⟨#[]⟩ : ByteArray); rw [app_nil]; rfl), fun j t hj => absurd hj (by omega), (by have := numsD_size d 4; rw [hs]; omega), rfl, rfl⟩, ⟨rfl, rfl, rfl, trivial⟩, rfl⟩ ?_
      rintro mm L h ⟨k, s, rfl, hk, hs, hb2, hsz, rfl, rfl⟩
      refine wSeq ?_
      refine wReg ?_
      refine sP rfl rfl rfl (p_icmp rfl rfl rfl rfl) ?_
      refine lNil ?_
      refine wSeq ?_
      refine wCond rfl (fun hc3 => ?_) (fun hc3 => ?_)
      · have hk5 : k < 2 := by have h := hc3; simp at h; omega
        obtain ⟨t, ht⟩ : ∃ t, (partsD d)[k]? = some t := getL (l := partsD d) hk5
        have hxA : ((partsD d).map sA)[k * 1]? = some (sA t) := by rw [Nat.mul_one, List.getElem?_map, ht]; rfl
        refine wSkip ?_
        refine wSeq ?_
        refine wBlock ?_
        refine wSeq ?_
        refine wReg ?_
        refine sP rfl rfl rfl (p_index_arr rfl rfl Try.underlying103 ty9 rfl (i := k) rfl hk5 (.inr ⟨rfl, hxA⟩)) ?_
        refine sP rfl rfl rfl (pA rfl rfl) ?_
        refine lNil ?_
        refine wSeq ?_
        refine wReg ?_
        refine sP rfl rfl rfl (pM rfl rfl) ?_
        refine sP rfl rfl rfl (p_call rfl (text_p t (partD_size ok ht)) ⟨Sub.refl, trivial⟩) ?_
        refine sP rfl rfl rfl (pMt rfl rfl) ?_
        refine sP rfl rfl rfl (p_extract rfl rfl rfl) ?_
        refine sP rfl rfl rfl (p_extract rfl rfl rfl) ?_
        refine sP rfl rfl rfl (pA rfl rfl) ?_
        refine sP rfl rfl rfl (pA rfl rfl) ?_
        refine lNil ?_
        refine wSeq ?_
        refine wSeq ?_
        refine wReg ?_
        refine sP rfl rfl rfl (pM rfl rfl) ?_
        refine sP rfl rfl rfl (p_icmp rfl rfl rfl rfl) ?_
        refine lNil ?_
        refine wCond rfl (fun hc4 => ?_) (fun hc4 => ?_)
        · refine wSeq ?_
          refine wReg ?_
          refine sP rfl rfl rfl (pM rfl rfl) ?_
          refine sP rfl rfl rfl (pA rfl rfl) ?_
          refine sP rfl rfl rfl (pA rfl rfl) ?_
          refine lNil ?_
          refine wRet ?_
          have hne : txE t ≠ 0 := by simpa using hc4
          obtain ⟨hl, h3⟩ := txE_yes hne
          have he := dputE_long hz ht hl
          exact rgs2 (rg_tmp (gives_sub (Sub.of_eq (avS (dputS_err (by rw [he]; decide)).symm)))) (rg_tmp (gives_sub (Sub.of_eq (avI (by rw [he, h3])))))
        · have hto2 : t.size ≤ 65536 := txE_no (by simpa using hc4)
          have hto3 := txS_size t
          refine wSkip ?_
          refine wReg ?_
          refine sP rfl rfl rfl (pM rfl rfl) ?_
          refine sP rfl rfl rfl (pM rfl rfl) ?_
          refine sP rfl rfl rfl (p_sadd rfl rfl rfl (by omega)) ?_
          refine sP rfl rfl rfl (pA rfl rfl) ?_
          refine lNil ?_
          refine wReg ?_
          refine sP rfl rfl rfl (p_iar rfl rfl rfl rfl) ?_
          refine sP rfl rfl rfl (pM rfl rfl) ?_
          refine lNil ?_
          have hto : t.size ≤ 65536 := txE_no (by simpa using hc4)
          refine ⟨_, _, [], [], ?_, ⟨k + 1, _, rfl, hk5, ?_, fun j t2 hj hj2 => ?_, ?_, rfl, rfl⟩, ⟨rfl, rfl, avI (wrapI (by omega) (by omega)), trivial⟩, rfl⟩
          · omega
          · rw [hs]; exact cat_take txS ht _
          · rcases Nat.lt_or_ge j k with g | g
            · exact hb2 j t2 g hj2
            · obtain rfl : j = k := by omega
              rw [ht] at hj2; injection hj2 with hj2; rw [← hj2]; exact hto
          · rw [ByteArray.size_append]; have := txS_size t; omega
      · have hk7 : k = 2 := by have h := hc3; simp at h; omega
        subst hk7
        refine wExit ?_
        refine wSeq ?_
        refine wReg ?_
        refine sP rfl rfl rfl (pM rfl rfl) ?_
        refine sP rfl rfl rfl (pA rfl rfl) ?_
        refine sP rfl rfl rfl (pA rfl rfl) ?_
        refine lNil ?_
        refine wRet ?_
        have he : dputE d = 0 := dputE_ok hz fun j t ht => hb2 j t (by have := (List.getElem?_eq_some_iff.1 ht).1; exact this) ht
        have hS : s = dputS d := by rw [dputS_ok he, hs]; rfl
        exact rgs2 (rg_tmp (gives_sub (Sub.of_eq (avS hS)))) (rg_tmp (gives_sub (Sub.of_eq (avI he.symm))))

def rdrC (q p : Nat) (e : Int) : HObj := .cells q 121 [nP p, iA e]
def rdK (st : ByteArray × Int) : Nat → ByteArray × Int
  | 0 => st
  | m + 1 => (rdN (rdK st m)).2
theorem rdK_size (st : ByteArray × Int) : ∀ m, (rdK st m).1.size ≤ st.1.size
  | 0 => Nat.le_refl _
  | m + 1 => Nat.le_trans (rdN_size (rdK st m)) (rdK_size st m)
def headD (st : ByteArray × Int) : DeltaT := (((rdN st).1, (rdN (rF1 st)).1), ((rdN (rF2 st)).1, (rdN (rF3 st)).1, (rdN st).1), [], [])
def HdR (q p : Nat) (e : Int) (a : AV) (st : ByteArray × Int) (av : AV) (h' : List HObj) : Prop := av = a ∧ h' = [rdrC q p e, rdO p st]
theorem HdR.two {q p : Nat} {e : Int} {a : AV} {st : ByteArray × Int} {av : AV} {h' : List HObj} (h : HdR q p e a st av h') : ∃ x y, h' = [x, y] := ⟨_, _, h.2⟩
theorem HdR.pq {q p : Nat} {e : Int} {a : AV} {st : ByteArray × Int} {av : AV} {x y : HObj} (h : HdR q p e a st av [x, y]) : av = a ∧ x = rdrC q p e ∧ y = rdO p st := ⟨h.1, by simpa using h.2⟩

set_option maxRecDepth 100000 in
theorem dhead_m (q p : Nat) (e : Int) (st : ByteArray × Int) (hs : st.1.size < 9223372036854775807) : MFn Try.prog False 81 [nP q] [rdrC q p e, rdO p st] (HdR q p e (dlA (headD st)) (rF4 st)) := by
  refine mfn Try.func81 rfl (by kernel_rfl) 33 rfl _ rfl (Nat.le_of_ble_eq_true rfl) (fun X w0 => ?_)
  refine wSeq ?_
  refine wReg ?_
  refine sAlloc rfl rfl rfl rfl ze29 (fun g2 => ?_)
  refine lNil ?_
  refine wSeq ?_
  refine wDrawA 24 23 3 29 [.int .i64 0, .int .i64 0, .int .i64 0, .int .i64 0, .int .i64 0, .slice none 0 0, .slice none 0 0] (by kernel_rfl) (by kernel_rfl) (fun m => [rdrC q p e, rdO p (rdK st m), .cells g2 29 [iA 0, iA 0, iA 0, iA 0, iA 0, .x (.slice none 0 0), .x (.slice none 0 0)]]) [4, 9, 15, 20] (by kernel_rfl) (by kernel_rfl) rfl rfl (fun m _ => rfl) ?_
  refine dwP rfl rfl rfl rfl rfl (fun k al => (pM rfl rfl)) ?_
  refine dwP rfl rfl rfl rfl rfl (fun k al => (p_nilCheck rfl rfl)) ?_
  refine dwP rfl rfl rfl rfl rfl (fun k al => (p_fieldAddr_own rfl rfl fl121_0 ty118 (by decide))) ?_
  refine dwP rfl rfl rfl rfl rfl (fun k al => (pLdO1 0 rfl rfl rfl ty118 rfl)) ?_
  refine dwM 0 rfl rfl rfl rfl rfl (fun al => mstep_mid [rdrC q p e] ([.cells g2 29 [iA 0, iA 0, iA 0, iA 0, iA 0, .x (.slice none 0 0), .x (.slice none 0 0)]] ++ al) rfl (rdnum_m p (rdK st 0) (by have := rdK_size st 0; omega)) (by exact ⟨Sub.refl, trivial⟩) (fun _ _ h => h)) ?_
  refine dwP rfl rfl rfl rfl rfl (fun k al => (pM rfl rfl)) ?_
  refine dwP rfl rfl rfl rfl rfl (fun k al => (p_nilCheck rfl rfl)) ?_
  refine dwP rfl rfl rfl rfl rfl (fun k al => (p_fieldAddr_own rfl rfl fl121_0 ty118 (by decide))) ?_
  refine dwP rfl rfl rfl rfl rfl (fun k al => (pLdO1 0 rfl rfl rfl ty118 rfl)) ?_
  refine dwM 1 rfl rfl rfl rfl rfl (fun al => mstep_mid [rdrC q p e] ([.cells g2 29 [iA 0, iA 0, iA 0, iA 0, iA 0, .x (.slice none 0 0), .x (.slice none 0 0)]] ++ al) rfl (rdnum_m p (rdK st 1) (by have := rdK_size st 1; omega)) (by exact ⟨Sub.refl, trivial⟩) (fun _ _ h => h)) ?_
  refine dwP rfl rfl rfl rfl rfl (fun k al => (p_build (res := [iA ((rdN st).1 : Nat), iA ((rdN (rF1 st)).1 : Nat)]) rfl ze23 pl23 rfl rfl)) ?_
  refine dwP rfl rfl rfl rfl rfl (fun k al => (pM rfl rfl)) ?_
  refine dwP rfl rfl rfl rfl rfl (fun k al => (p_nilCheck rfl rfl)) ?_
  refine dwP rfl rfl rfl rfl rfl (fun k al => (p_fieldAddr_own rfl rfl fl121_0 ty118 (by decide))) ?_
  refine dwP rfl rfl rfl rfl rfl (fun k al => (pLdO1 0 rfl rfl rfl ty118 rfl)) ?_
  refine dwM 2 rfl rfl rfl rfl rfl (fun al => mstep_mid [rdrC q p e] ([.cells g2 29 [iA 0, iA 0, iA 0, iA 0, iA 0, .x (.slice none 0 0), .x (.slice none 0 0)]] ++ al) rfl (rdnum_m p (rdK st 2) (by have := rdK_size st 2; omega)) (by exact ⟨Sub.refl, trivial⟩) (fun _ _ h => h)) ?_
  refine dwP rfl rfl rfl rfl rfl (fun k al => (pM rfl rfl)) ?_
  refine dwP rfl rfl rfl rfl rfl (fun k al => (p_nilCheck rfl rfl)) ?_
  refine dwP rfl rfl rfl rfl rfl (fun k al => (p_fieldAddr_own rfl rfl fl121_0 ty118 (by decide))) ?_
  refine dwP rfl rfl rfl rfl rfl (fun k al => (pLdO1 0 rfl rfl rfl ty118 rfl)) ?_
  refine dwM 3 rfl rfl rfl rfl rfl (fun al => mstep_mid [rdrC q p e] ([.cells g2 29 [iA 0, iA 0, iA 0, iA 0, iA 0, .x (.slice none 0 0), .x (.slice none 0 0)]] ++ al) rfl (rdnum_m p (rdK st 3) (by have := rdK_size st 3; omega)) (by exact ⟨Sub.refl, trivial⟩) (fun _ _ h => h)) ?_
  refine dwP rfl rfl rfl rfl rfl (fun k al => (p_build (res := [iA ((rdN (rF2 st)).1 : Nat), iA ((rdN (rF3 st)).1 : Nat), iA 0]) rfl ze25 pl25 rfl rfl)) ?_
  refine dwP rfl rfl rfl rfl rfl (fun k al => (p_build (res := [iA ((rdN st).1 : Nat), iA ((rdN (rF1 st)).1 : Nat), iA ((rdN (rF2 st)).1 : Nat), iA ((rdN (rF3 st)).1 : Nat), iA 0, .x (.slice none 0 0), .x (.slice none 0 0)]) rfl ze29 pl29 rfl rfl)) ?_
  refine dwA rfl rfl rfl rfl rfl ze29 ?_
  refine dwNil (fun g3 => ?_)
  refine sStore 3 rfl rfl rfl rfl rfl ty29 rfl rfl rfl (Nat.le_of_ble_eq_true rfl) ?_
  refine lNil ?_
  refine wSeq ?_
  refine wReg ?_
  refine sP rfl rfl rfl (p_fieldAddr_own rfl rfl fl29_0 ty23 (by decide)) ?_
  refine sP rfl rfl rfl (p_fieldAddr_own rfl rfl fl23_0 ty3 (by decide)) ?_
  refine sP rfl rfl rfl (pLdO1 3 rfl rfl rfl ty3 rfl) ?_
  refine sP rfl rfl rfl (p_fieldAddr_own rfl rfl fl29_1 ty25 (by decide)) ?_
  refine sP rfl rfl rfl (p_fieldAddr_own rfl rfl fl25_2 ty3 (by decide)) ?_
  refine sStore1 3 rfl rfl rfl rfl rfl ty3 rfl rfl (Nat.le_of_ble_eq_true rfl) ?_
  refine lNil ?_
  refine wSeq ?_
  refine wReg ?_
  refine sP rfl rfl rfl (pLdW 3 rfl rfl rfl ty29 rfl) ?_
  refine sStore 2 rfl rfl rfl rfl rfl ty29 rfl rfl rfl (Nat.le_of_ble_eq_true rfl) ?_
  refine lNil ?_
  refine wRet ?_
  exact ⟨_, [rdrC q p e, rdO p (rF4 st)], _, rfl, ⟨rfl, rfl⟩, rgm_cell rfl rfl (List.mem_of_getElem? (i := 2) rfl) ty29 rfl (Sub.agg ⟨Sub.refl, Sub.refl, Sub.refl, Sub.refl, Sub.refl, Sub.nil_, Sub.nil_, trivial⟩)⟩
end Go.Proofs.Ytmhkalalcmkpbaa

namespace Go.Proofs.Ytmhkalalcmkpbaa
open Go Go.RowKit
set_option linter.unusedVariables false
set_option linter.unusedSimpArgs false

def lk (y z : CtxT) : Bool := decide ((0 : Int) < ((missF y z).length : Nat))
theorem lk_eq (y z : CtxT) : decide (0 < (missF y z).length) = lk y z := by
  unfold lk
  by_cases h : 0 < (missF y z).length
  · rw [decide_eq_true h, decide_eq_true (by omega)]
  · rw [decide_eq_false h, decide_eq_false (by omega)]
theorem cmp_of {y z : CtxT} {a b : Bool} (ha : lk y z = a) (hb : lk z y = b) : compareF y z = cmpC a b := by unfold compareF; rw [lk_eq, lk_eq, ha, hb]
theorem cmp_2 {y z : CtxT} (h : (lk y z && lk z y) = true) : compareF y z = 2 := by rw [Bool.and_eq_true] at h; rw [cmp_of h.1 h.2]; rfl
theorem cmp_l {y z : CtxT} (h : (lk y z && lk z y) = false) (h2 : lk y z = true) : compareF y z = -1 := by rw [h2, Bool.true_and] at h; rw [cmp_of h2 h]; rfl
theorem cmp_m {y z : CtxT} (h2 : lk y z = false) (h3 : lk z y = true) : compareF y z = 1 := by rw [cmp_of h2 h3]; rfl
theorem cmp_0 {y z : CtxT} (h2 : lk y z = false) (h3 : lk z y = false) : compareF y z = 0 := by rw [cmp_of h2 h3]; rfl
theorem cputE_1 {c : CtxT} (h : ctxE c ≠ 0) : cputE c = ctxE c := if_pos h
theorem ctx_putE {c : CtxT} (hl : c.1.length = 16) (h : ctxE c = 0) : putE c.2 = if 4096 < c.2.length then 3 else 0 := by
  have hc : Clean c := by have := clean_F hl; rw [(ctxE_zero h).2] at this; exact this
  unfold putE; rw [mayE_G, clean_may hc]
theorem cputE_2 {c : CtxT} (hl : c.1.length = 16) (h : ctxE c = 0) (h2 : putE c.2 ≠ 0) : cputE c = putE c.2 := by
  have e := ctx_putE hl h
  by_cases g : 4096 < c.2.length
  · rw [if_pos g] at e
    unfold cputE; rw [if_neg (by simpa using h), if_pos g, e]
  · rw [if_neg g] at e; exact absurd e h2
theorem cputE_3 {c : CtxT} (hl : c.1.length = 16) (h : ctxE c = 0) (h2 : putE c.2 = 0) : cputE c = txE (putS c.2) := by
  have e := ctx_putE hl h
  by_cases g : 4096 < c.2.length
  · rw [if_pos g, h2] at e; cases e
  · unfold cputE txE; rw [if_neg (by simpa using h), if_neg g]
theorem cputS_e {c : CtxT} (h : cputE c ≠ 0) : cputS c = ⟨#[]⟩ := if_pos h
theorem cputS_o {c : CtxT} (h : cputE c = 0) : cputS c = cat (c.1.map numS) ++ txS (putS c.2) := if_neg (by simpa using h)
theorem ctx_vE {c : CtxT} (h : ctxE c = 0) : vE c.1 = 0 := by unfold ctxE at h; exact (ifE h).1
theorem vputS_o {v : List Int} (h : vE v = 0) : vputS v = cat (v.map numS) := if_neg (by simpa using h)
theorem vputS_size {v : List Int} (hv : v.length = 16) : (vputS v).size ≤ 128 := by
  unfold vputS
  split
  · exact Nat.zero_le _
  · have h := cat_size (k := 8) (v.map numS) fun x hx => by obtain ⟨n, _, rfl⟩ := List.mem_map.1 hx; exact numS_size n
    rw [List.length_map] at h
    omega

set_option maxRecDepth 100000 in
theorem ccompare_p (y z : CtxT) (ha : y.1.length = 16) (hb : z.1.length = 16) (ha2 : y.2.length < 1000000) (hb2 : z.2.length < 1000000) : PFn Try.prog False 60 [ctA y, ctA z] (iA (compareF y z)) := by
  refine pfn Try.func60 rfl (by kernel_rfl) 26 rfl _ rfl (Nat.le_of_ble_eq_true rfl) (fun X w0 => ?_)
  refine wSeq ?_
  refine wReg ?_
  refine sBox rfl rfl rfl rfl rfl (fun g2 => ?_)
  refine sBox rfl rfl rfl rfl rfl (fun g3 => ?_)
  refine sP rfl rfl rfl (pA rfl rfl) ?_
  refine lNil ?_
  refine wSeq ?_
  refine wDrawM 12 (by kernel_rfl) (by kernel_rfl) (fun _ => [.cells g2 55 (encCt y), .cells g3 55 (encCt z)]) [] (by kernel_rfl) rfl (fun m _ => rfl) ?_
  refine dwP rfl rfl rfl rfl rfl (fun k al => (pLdW 0 rfl rfl rfl ty55 (ctx_len ha))) ?_
  refine dwP rfl rfl rfl rfl rfl (fun k al => (pLdW 1 rfl rfl rfl ty55 (ctx_len hb))) ?_
  refine dwP rfl rfl rfl rfl rfl (fun k al => (p_call rfl (cmiss_p y z ha hb ha2 hb2) ⟨Sub.refl, Sub.refl, trivial⟩)) ?_
  refine dwP rfl rfl rfl rfl rfl (fun k al => (p_len_sl rfl rfl Try.underlying27)) ?_
  refine dwP rfl rfl rfl rfl rfl (fun k al => (p_icmp rfl rfl rfl (show _ = some (lk y z) from rfl))) ?_
  refine dwP rfl rfl rfl rfl rfl (fun k al => (pLdW 1 rfl rfl rfl ty55 (ctx_len hb))) ?_
  refine dwP rfl rfl rfl rfl rfl (fun k al => (pLdW 0 rfl rfl rfl ty55 (ctx_len ha))) ?_
  refine dwP rfl rfl rfl rfl rfl (fun k al => (p_call rfl (cmiss_p z y hb ha hb2 ha2) ⟨Sub.refl, Sub.refl, trivial⟩)) ?_
  refine dwP rfl rfl rfl rfl rfl (fun k al => (p_len_sl rfl rfl Try.underlying27)) ?_
  refine dwP rfl rfl rfl rfl rfl (fun k al => (p_icmp rfl rfl rfl (show _ = some (lk z y) from rfl))) ?_
  refine dwP rfl rfl rfl rfl rfl (fun k al => (pA rfl rfl)) ?_
  refine dwP rfl rfl rfl rfl rfl (fun k al => (pA rfl rfl)) ?_
  refine dwNil ?_
  refine lNil ?_
  refine wSeq ?_
  refine wBlock ?_
  refine wCut (fun L h => ∃ b0 : Bool, b0 = (lk y z && lk z y) ∧ L = [(5, bA (lk y z)), (6, bA (lk z y)), (17, bA b0)] ∧ h = [.cells g2 55 (encCt y), .cells g3 55 (encCt z)]) ?_ ?_
  · cases hb0 : (lk y z) with
    | true =>
      refine wReg ?_
      refine sP rfl rfl rfl (pM rfl rfl) ?_
      refine sP rfl rfl rfl (pM rfl rfl) ?_
      refine sG rfl rfl rfl rfl rfl (pM rfl rfl) ?_
      refine sP rfl rfl rfl (p_pick rfl rfl rfl) ?_
      refine sP rfl rfl rfl (pA rfl rfl) ?_
      refine lNil ?_
      exact ⟨_, [.cells g2 55 (encCt y), .cells g3 55 (encCt z)], [], ⟨_, (by exact rfl), rfl, rfl⟩, ⟨rfl, rfl, rfl, trivial⟩, rfl⟩
    | false =>
      refine wReg ?_
      refine sP rfl rfl rfl (pM rfl rfl) ?_
      refine sP rfl rfl rfl (pM rfl rfl) ?_
      refine sU rfl rfl rfl (by decide) rfl rfl ?_
      refine sP rfl rfl rfl (p_pick rfl rfl rfl) ?_
      refine sP rfl rfl rfl (pA rfl rfl) ?_
      refine lNil ?_
      exact ⟨_, [.cells g2 55 (encCt y), .cells g3 55 (encCt z)], [], ⟨_, (by exact rfl), rfl, rfl⟩, ⟨rfl, rfl, rfl, trivial⟩, rfl⟩
  · rintro L h ⟨b0, bb0, rfl, rfl⟩
    refine wCond rfl (fun hc1 => ?_) (fun hc1 => ?_)
    · refine wSeq ?_
      refine wReg ?_
      refine sP rfl rfl rfl (pA rfl rfl) ?_
      refine lNil ?_
      refine wRet ?_
      exact rgs1 (rg_tmp (gives_sub (Sub.of_eq (avI (cmp_2 (bb0.symm.trans hc1)).symm))))
    · refine wSeq ?_
      refine wReg ?_
      refine sP rfl rfl rfl (pM rfl rfl) ?_
      refine sP rfl rfl rfl (pA rfl rfl) ?_
      refine lNil ?_
      refine wCond rfl (fun hc2 => ?_) (fun hc2 => ?_)
      · refine wSeq ?_
        refine wReg ?_
        refine sP rfl rfl rfl (pA rfl rfl) ?_
        refine lNil ?_
        refine wRet ?_
        exact rgs1 (rg_tmp (gives_sub (Sub.of_eq (avI (cmp_l (bb0.symm.trans hc1) hc2).symm))))
      · refine wSeq ?_
        refine wReg ?_
        refine sP rfl rfl rfl (pM rfl rfl) ?_
        refine sP rfl rfl rfl (pA rfl rfl) ?_
        refine lNil ?_
        refine wCond rfl (fun hc3 => ?_) (fun hc3 => ?_)
        · refine wSeq ?_
          refine wReg ?_
          refine sP rfl rfl rfl (pA rfl rfl) ?_
          refine lNil ?_
          refine wRet ?_
          exact rgs1 (rg_tmp (gives_sub (Sub.of_eq (avI (cmp_m hc2 hc3).symm))))
        · refine wSkip ?_
          refine wSeq ?_
          refine wReg ?_
          refine sP rfl rfl rfl (pA rfl rfl) ?_
          refine lNil ?_
          refine wRet ?_
          exact rgs1 (rg_tmp (gives_sub (Sub.of_eq (avI (cmp_0 hc2 hc3).symm))))
set_option maxRecDepth 100000 in
theorem cput_p (c : CtxT) (hv : c.1.length = 16) (hn : c.2.length < 1000000) : PFn Try.prog False 35 [ctA c] (.tup [sA (cputS c), iA (cputE c)]) := by
  refine pfn Try.func35 rfl (by kernel_rfl) 41 rfl _ rfl (Nat.le_of_ble_eq_true rfl) (fun X w0 => ?_)
  refine wSeq ?_
  refine wReg ?_
  refine sBox rfl rfl rfl rfl rfl (fun g1 => ?_)
  refine sP rfl rfl rfl (pA rfl rfl) ?_
  refine sP rfl rfl rfl (pA rfl rfl) ?_
  refine lNil ?_
  refine wSeq ?_
  refine wSeq ?_
  refine wReg ?_
  refine sP rfl rfl rfl (pLdW 0 rfl rfl rfl ty55 (ctx_len hv)) ?_
  refine sP rfl rfl rfl (p_call rfl (ccheck_p c hv hn) ⟨Sub.refl, trivial⟩) ?_
  refine sP rfl rfl rfl (pA rfl rfl) ?_
  refine lNil ?_
  refine wSeq ?_
  refine wReg ?_
  refine sP rfl rfl rfl (pM rfl rfl) ?_
  refine sP rfl rfl rfl (p_icmp rfl rfl rfl rfl) ?_
  refine lNil ?_
  refine wCond rfl (fun hc1 => ?_) (fun hc1 => ?_)
  · refine wSeq ?_
    refine wReg ?_
    refine sP rfl rfl rfl (pM rfl rfl) ?_
    refine sP rfl rfl rfl (pA rfl rfl) ?_
    refine sP rfl rfl rfl (pA rfl rfl) ?_
    refine lNil ?_
    refine wRet ?_
    have h : ctxE c ≠ 0 := by simpa using hc1
    have he := cputE_1 h
    exact rgs2 (rg_tmp (gives_sub (Sub.of_eq (avS (cputS_e (by rw [he]; exact h)).symm)))) (rg_tmp (gives_sub (Sub.of_eq (avI he.symm))))
  · have hz : ctxE c = 0 := by simpa using hc1
    refine wSkip ?_
    refine wSeq ?_
    refine wReg ?_
    refine sP rfl rfl rfl (p_fieldAddr_own rfl rfl fl55_1 ty27 (by decide)) ?_
    refine sP rfl rfl rfl (pLdO1 0 rfl rfl rfl ty27 (ctx_C hv)) ?_
    refine sP rfl rfl rfl (p_call rfl (dput_p c.2 hn) ⟨Sub.refl, trivial⟩) ?_
    refine sP rfl rfl rfl (pMt rfl rfl) ?_
    refine sP rfl rfl rfl (p_extract rfl rfl rfl) ?_
    refine sP rfl rfl rfl (p_extract rfl rfl rfl) ?_
    refine sP rfl rfl rfl (pA rfl rfl) ?_
    refine sP rfl rfl rfl (pA rfl rfl) ?_
    refine lNil ?_
    refine wSeq ?_
    refine wSeq ?_
    refine wReg ?_
    refine sP rfl rfl rfl (pM rfl rfl) ?_
    refine sP rfl rfl rfl (p_icmp rfl rfl rfl rfl) ?_
    refine lNil ?_
    refine wCond rfl (fun hc2 => ?_) (fun hc2 => ?_)
    · refine wSeq ?_
      refine wReg ?_
      refine sP rfl rfl rfl (pM rfl rfl) ?_
      refine sP rfl rfl rfl (pA rfl rfl) ?_
      refine sP rfl rfl rfl (pA rfl rfl) ?_
      refine lNil ?_
      refine wRet ?_
      have h : putE c.2 ≠ 0 := by simpa using hc2
      have he := cputE_2 hv hz h
      exact rgs2 (rg_tmp (gives_sub (Sub.of_eq (avS (cputS_e (by rw [he]; exact h)).symm)))) (rg_tmp (gives_sub (Sub.of_eq (avI he.symm))))
    · have hz2 : putE c.2 = 0 := by simpa using hc2
      refine wSkip ?_
      refine wSeq ?_
      refine wReg ?_
      refine sP rfl rfl rfl (p_fieldAddr_own rfl rfl fl55_0 ty53 (by decide)) ?_
      refine sP rfl rfl rfl (pLdO 0 rfl rfl rfl ty53 (ctx_le hv) (ctx_V hv)) ?_
      refine sP rfl rfl rfl (p_call rfl (vput_p c.1 hv) ⟨Sub.refl, trivial⟩) ?_
      refine sP rfl rfl rfl (pMt rfl rfl) ?_
      refine sP rfl rfl rfl (p_extract rfl rfl rfl) ?_
      refine sP rfl rfl rfl (p_extract rfl rfl rfl) ?_
      refine sP rfl rfl rfl (pA rfl rfl) ?_
      refine sP rfl rfl rfl (pA rfl rfl) ?_
      refine lNil ?_
      refine wSeq ?_
      refine wReg ?_
      refine sP rfl rfl rfl (pM rfl rfl) ?_
      refine sP rfl rfl rfl (p_call rfl (text_p (putS c.2) (by have := putSD_size c.2; omega)) ⟨Sub.refl, trivial⟩) ?_
      refine sP rfl rfl rfl (pMt rfl rfl) ?_
      refine sP rfl rfl rfl (p_extract rfl rfl rfl) ?_
      refine sP rfl rfl rfl (p_extract rfl rfl rfl) ?_
      refine sP rfl rfl rfl (pA rfl rfl) ?_
      refine sP rfl rfl rfl (pA rfl rfl) ?_
      refine lNil ?_
      refine wSeq ?_
      refine wSeq ?_
      refine wReg ?_
      refine sP rfl rfl rfl (pM rfl rfl) ?_
      refine sP rfl rfl rfl (p_icmp rfl rfl rfl rfl) ?_
      refine lNil ?_
      refine wCond rfl (fun hc3 => ?_) (fun hc3 => ?_)
      · refine wSeq ?_
        refine wReg ?_
        refine sP rfl rfl rfl (pM rfl rfl) ?_
        refine sP rfl rfl rfl (pA rfl rfl) ?_
        refine sP rfl rfl rfl (pA rfl rfl) ?_
        refine lNil ?_
        refine wRet ?_
        have h : txE (putS c.2) ≠ 0 := by simpa using hc3
        have he := cputE_3 hv hz hz2
        exact rgs2 (rg_tmp (gives_sub (Sub.of_eq (avS (cputS_e (by rw [he]; exact h)).symm)))) (rg_tmp (gives_sub (Sub.of_eq (avI he.symm))))
      · refine wSkip ?_
        refine wSeq ?_
        refine wReg ?_
        refine sP rfl rfl rfl (pM rfl rfl) ?_
        refine sP rfl rfl rfl (pM rfl rfl) ?_
        refine sP rfl rfl rfl (p_sadd rfl rfl rfl (by have := vputS_size hv; have := txS_size (putS c.2); have := putSD_size c.2; omega)) ?_
        refine sP rfl rfl rfl (pA rfl rfl) ?_
        refine sP rfl rfl rfl (pA rfl rfl) ?_
        refine lNil ?_
        refine wRet ?_
        have h : txE (putS c.2) = 0 := by simpa using hc3
        have he := cputE_3 hv hz hz2
        exact rgs2 (rg_tmp (gives_sub (Sub.of_eq (avS (by rw [cputS_o (by rw [he, h]), ← vputS_o (ctx_vE hz)]))))) (rg_tmp (gives_sub (Sub.of_eq (avI (by rw [he, h])))))
end Go.Proofs.Ytmhkalalcmkpbaa

namespace Go.Proofs.Ytmhkalalcmkpbaa
open Go Go.RowKit
set_option linter.unusedVariables false
set_option linter.unusedSimpArgs false

def rV (s : ByteArray) : List Int := (rdV 16 (s, 0)).1
def rS (s : ByteArray) : ByteArray × Int := (rdV 16 (s, 0)).2
def tA (s : ByteArray) : ByteArray × (ByteArray × Int) := rdT (rS s)
theorem rV_eq (s : ByteArray) : (rdV 16 (s, 0)).1 = rV s := rfl
theorem rS_eq (s : ByteArray) : (rdV 16 (s, 0)).2 = rS s := rfl
theorem rV_len (s : ByteArray) : (rV s).length = 16 := rdV_len 16 _
theorem rS_size (s : ByteArray) : (rS s).1.size ≤ s.size := rdV_size 16 (s, 0)
theorem tA_text (s : ByteArray) : (tA s).1.size ≤ 65536 := rdT_text _
theorem tA_size (s : ByteArray) : (tA s).2.1.size ≤ s.size := Nat.le_trans (rdT_size (rS s)) (rS_size s)
theorem creadE_t (s : ByteArray) : creadE s = if doneE (tA s).2 ≠ 0 then doneE (tA s).2 else if vE (rV s) ≠ 0 then vE (rV s) else if (readD (tA s).1).2 ≠ 0 then (readD (tA s).1).2 else ctxE (rV s, (readD (tA s).1).1) := rfl
theorem creadD_t (s : ByteArray) : creadD s = (rV s, (readD (tA s).1).1) := rfl
def cR0 (s : ByteArray) : Int := doneE (tA s).2
def cR1 (s : ByteArray) : Int := if cR0 s = 0 then vE (rV s) else cR0 s
def cR2 (s : ByteArray) : Int := if cR1 s = 0 then (readD (tA s).1).2 else cR1 s
def cR3 (s : ByteArray) : Int := if cR2 s = 0 then ctxE (rV s, (readD (tA s).1).1) else cR2 s
theorem cR_end (s : ByteArray) : cR3 s = creadE s := by
  rw [creadE_t]
  unfold cR3 cR2 cR1 cR0
  by_cases h0 : doneE (tA s).2 = 0 <;> by_cases h1 : vE (rV s) = 0 <;> by_cases h2 : (readD (tA s).1).2 = 0 <;> simp [h0, h1, h2]
theorem creadT_e {s : ByteArray} (h : creadE s ≠ 0) : creadT s = zeroC := if_pos h
theorem creadT_o {s : ByteArray} (h : creadE s = 0) : creadT s = (rV s, (readD (tA s).1).1) := by unfold creadT; rw [if_neg (by simpa using h), creadD_t]
theorem zeroC_sub : Sub (.agg (iL zeroV ++ [.x (.slice none 0 0)])) (ctA zeroC) := Sub.agg ⟨Sub.refl, Sub.refl, Sub.refl, Sub.refl, Sub.refl, Sub.refl, Sub.refl, Sub.refl, Sub.refl, Sub.refl, Sub.refl, Sub.refl, Sub.refl, Sub.refl, Sub.refl, Sub.refl, Sub.nil_, trivial⟩
attribute [local irreducible] rV rS

set_option maxRecDepth 100000 in
theorem cread_p (s : ByteArray) (hs : s.size < 9223372036854775807) : PFn Try.prog False 37 [sA s] (.tup [ctA (creadT s), iA (creadE s)]) := by
  refine pfn Try.func37 rfl (by kernel_rfl) 46 rfl _ rfl (Nat.le_of_ble_eq_true rfl) (fun X w0 => ?_)
  have hVl := rV_len s
  refine wSeq ?_
  refine wReg ?_
  refine sAlloc rfl rfl rfl rfl ze55 (fun g2 => ?_)
  refine sP rfl rfl rfl (pA rfl rfl) ?_
  refine lNil ?_
  refine wSeq ?_
  refine wReg ?_
  refine sP rfl rfl rfl (pM rfl rfl) ?_
  refine sM0 rfl rfl rfl rfl (new_m s) ⟨Sub.refl, trivial⟩ (fun _ _ ⟨_, h⟩ => h.one) (fun av q hr => ?_)
  obtain ⟨p, hr⟩ := hr
  obtain ⟨rfl, rfl⟩ := hr.pq
  refine sP rfl rfl rfl (pA rfl rfl) ?_
  refine lNil ?_
  refine wSeq ?_
  refine wReg ?_
  refine sAlloc rfl rfl rfl rfl ze55 (fun g5 => ?_)
  refine lNil ?_
  refine wSeq ?_
  refine wSeq ?_
  refine wReg ?_
  refine sP rfl rfl rfl (pM rfl rfl) ?_
  refine lNil ?_
  refine wBlock ?_
  refine wLoop (fun mm L h => ∃ i, mm = 16 - i ∧ i ≤ 16 ∧ L = [(2, nP g2), (4, nP p), (5, nP g5), (11, iA (i : Nat))] ∧ h = [.cells g2 55 (iL zeroV ++ [.x (.slice none 0 0)]), rdO p (rdV i (s, 0)).2, .cells g5 55 (iL (vpad (s, 0) i) ++ [AV.x (.slice none 0 0)])]) ⟨_, _, [.cells g2 55 (iL zeroV ++ [.x (.slice none 0 0)]), rdO p (rdV 0 (s, 0)).2, .cells g5 55 (iL (vpad (s, 0) 0) ++ [AV.x (.slice none 0 0)])], _, ⟨0, rfl, Nat.zero_le _, rfl, rfl⟩, ⟨rfl, rfl, rfl, rfl, trivial⟩, rfl⟩ ?_
  rintro mm L h ⟨i, rfl, hi, rfl, rfl⟩
  refine wSeq ?_
  refine wReg ?_
  refine sP rfl rfl rfl (p_icmp rfl rfl rfl rfl) ?_
  refine lNil ?_
  refine wSeq ?_
  refine wCond rfl (fun hc1 => ?_) (fun hc1 => ?_)
  · have hi16 : i < 16 := by have h := hc1; simp at h; omega
    refine wSkip ?_
    refine wSeq ?_
    refine wBlock ?_
    refine wSeq ?_
    refine wReg ?_
    refine sP rfl rfl rfl (pM rfl rfl) ?_
    refine sP rfl rfl rfl (pA rfl rfl) ?_
    refine lNil ?_
    refine wReg ?_
    refine sP rfl rfl rfl (pM rfl rfl) ?_
    refine sP rfl rfl rfl (pM rfl rfl) ?_
    refine sM1 1 rfl rfl rfl (rdnum_m p (rdV i (s, 0)).2 (Nat.lt_of_le_of_lt (rdV_size i (s, 0)) hs)) ⟨Sub.refl, trivial⟩ (fun _ _ h => h.one) (fun av q hr => ?_)
    obtain ⟨rfl, rfl⟩ := hr.pq
    refine sP rfl rfl rfl (p_fieldAddr_own rfl rfl fl55_0 ty53 (by decide)) ?_
    refine sP rfl rfl rfl (p_indexAddr_arr rfl rfl Try.underlying53 ty3 rfl (i := i) rfl hi16) ?_
    refine sStore1 2 rfl rfl rfl rfl rfl ty3 rfl rfl (by rw [ctx_len (vpad_len (s, 0) hi)]; omega) ?_
    refine lNil ?_
    refine wReg ?_
    refine sP rfl rfl rfl (p_iar rfl rfl rfl rfl) ?_
    refine sP rfl rfl rfl (pM rfl rfl) ?_
    refine lNil ?_
    refine ⟨_, _, [.cells g2 55 (iL zeroV ++ [.x (.slice none 0 0)]), rdO p (rdV (i + 1) (s, 0)).2, .cells g5 55 (iL (vpad (s, 0) (i + 1)) ++ [AV.x (.slice none 0 0)])], [], ?_, ⟨i + 1, rfl, hi16, rfl, rfl⟩, ⟨rfl, rfl, rfl, avI (wrapI (by omega) (by omega)), trivial⟩, ?_⟩
    · omega
    · show [_, _, HObj.cells g5 _ ((iL (vpad (s, 0) i) ++ [AV.x (.slice none 0 0)]).set (0 + i * 1) (iA ((rdN (rdV i (s, 0)).2).1 : Nat)))] = _
      rw [ctx_set (by rw [vpad_len (s, 0) hi]; exact hi16), vpad_set (s, 0) hi16]
      rfl
  · have hge : i = 16 := by have h := hc1; simp at h; omega
    subst hge
    refine wExit ?_
    refine wKeep [(2, nP g2), (4, nP p), (5, nP g5)] [.cells g2 55 (iL zeroV ++ [.x (.slice none 0 0)]), rdO p (rS s), .cells g5 55 (iL (rV s) ++ [AV.x (.slice none 0 0)])] [] ⟨rfl, rfl, rfl, trivial⟩ (by rw [vpad_all, rV_eq, rS_eq]; rfl) ?_
    refine wSeq ?_
    refine wReg ?_
    refine sP rfl rfl rfl (pM rfl rfl) ?_
    refine sM1 1 rfl rfl rfl (rdtext_m p (rS s) (Nat.lt_of_le_of_lt (rS_size s) hs)) ⟨Sub.refl, trivial⟩ (fun _ _ h => h.one) (fun av q hr => ?_)
    obtain ⟨rfl, rfl⟩ := hr.pq
    refine sP rfl rfl rfl (pA rfl rfl) ?_
    refine lNil ?_
    refine wSeq ?_
    refine wReg ?_
    refine sP rfl rfl rfl (pM rfl rfl) ?_
    refine sM1 1 rfl rfl rfl (rddone_m p (tA s).2) ⟨Sub.refl, trivial⟩ (fun _ _ h => h.one) (fun av q hr => ?_)
    obtain ⟨rfl, rfl⟩ := hr.pq
    refine sP rfl rfl rfl (pA rfl rfl) ?_
    refine lNil ?_
    refine wCut (fun L h => ∃ e, e = cR1 s ∧ L = [(2, nP g2), (5, nP g5), (7, sA (tA s).1), (8, iA e)] ∧ h = [.cells g2 55 (iL zeroV ++ [.x (.slice none 0 0)]), rdO p (tA s).2, .cells g5 55 (iL (rV s) ++ [AV.x (.slice none 0 0)])]) ?_ ?_
    · refine wSeq ?_
      refine wReg ?_
      refine sP rfl rfl rfl (pM rfl rfl) ?_
      refine sP rfl rfl rfl (p_icmp rfl rfl rfl rfl) ?_
      refine lNil ?_
      refine wCond rfl (fun hc1 => ?_) (fun hc1 => ?_)
      · refine wReg ?_
        refine sP rfl rfl rfl (p_fieldAddr_own rfl rfl fl55_0 ty53 (by decide)) ?_
        refine sP rfl rfl rfl (pLdO 2 rfl rfl rfl ty53 (ctx_le hVl) (ctx_V hVl)) ?_
        refine sP rfl rfl rfl (p_call rfl (vcheck_p (rV s) hVl) ⟨Sub.refl, trivial⟩) ?_
        refine sP rfl rfl rfl (pA rfl rfl) ?_
        refine lNil ?_
        have k0 : cR0 s = 0 := by show doneE (tA s).2 = 0; simpa using hc1
        exact ⟨_, [.cells g2 55 (iL zeroV ++ [.x (.slice none 0 0)]), rdO p (tA s).2, .cells g5 55 (iL (rV s) ++ [AV.x (.slice none 0 0)])], [], ⟨vE (rV s), (if_pos k0).symm, rfl, rfl⟩, ⟨rfl, rfl, rfl, rfl, trivial⟩, rfl⟩
      · refine wSkip ?_
        have k0 : cR0 s ≠ 0 := by show doneE (tA s).2 ≠ 0; simpa using hc1
        exact ⟨_, [.cells g2 55 (iL zeroV ++ [.x (.slice none 0 0)]), rdO p (tA s).2, .cells g5 55 (iL (rV s) ++ [AV.x (.slice none 0 0)])], [], ⟨cR0 s, (if_neg k0).symm, rfl, rfl⟩, ⟨rfl, rfl, rfl, rfl, trivial⟩, rfl⟩
    · rintro L h ⟨e, he, rfl, rfl⟩
      refine wCut (fun L h => ∃ e a, e = cR2 s ∧ (e = 0 → a = slD (readD (tA s).1).1) ∧ L = [(2, nP g2), (5, nP g5), (7, sA (tA s).1), (8, iA e)] ∧ h = [.cells g2 55 (iL zeroV ++ [.x (.slice none 0 0)]), rdO p (tA s).2, .cells g5 55 (iL (rV s) ++ [a])]) ?_ ?_
      · refine wSeq ?_
        refine wReg ?_
        refine sP rfl rfl rfl (pM rfl rfl) ?_
        refine sP rfl rfl rfl (p_icmp rfl rfl rfl rfl) ?_
        refine lNil ?_
        refine wCond rfl (fun hc2 => ?_) (fun hc2 => ?_)
        · refine wReg ?_
          refine sP rfl rfl rfl (pM rfl rfl) ?_
          refine sP rfl rfl rfl (p_call rfl (dread_p (tA s).1 (by have := tA_text s; omega)) ⟨Sub.refl, trivial⟩) ?_
          refine sP rfl rfl rfl (pMt rfl rfl) ?_
          refine sP rfl rfl rfl (p_extract rfl rfl rfl) ?_
          refine sP rfl rfl rfl (p_extract rfl rfl rfl) ?_
          refine sP rfl rfl rfl (p_fieldAddr_own rfl rfl fl55_1 ty27 (by decide)) ?_
          refine sStore1 2 rfl rfl rfl rfl rfl ty27 rfl rfl (by rw [ctx_len hVl]; exact Nat.le_refl _) ?_
          refine sP rfl rfl rfl (pA rfl rfl) ?_
          refine lNil ?_
          have k0 : cR1 s = 0 := by rw [← he]; simpa using hc2
          refine ⟨_, [.cells g2 55 (iL zeroV ++ [.x (.slice none 0 0)]), rdO p (tA s).2, .cells g5 55 (iL (rV s) ++ [slD (readD (tA s).1).1])], [], ⟨(readD (tA s).1).2, slD (readD (tA s).1).1, (if_pos k0).symm, fun _ => rfl, rfl, rfl⟩, ⟨rfl, rfl, rfl, rfl, trivial⟩, ?_⟩
          show [_, _, HObj.cells g5 _ ((iL (rV s) ++ [AV.x (.slice none 0 0)]).set 16 (slD (readD (tA s).1).1))] = _
          rw [ctx_setC hVl]
          rfl
        · refine wSkip ?_
          have k0 : cR1 s ≠ 0 := by rw [← he]; simpa using hc2
          exact ⟨_, [.cells g2 55 (iL zeroV ++ [.x (.slice none 0 0)]), rdO p (tA s).2, .cells g5 55 (iL (rV s) ++ [AV.x (.slice none 0 0)])], [], ⟨e, AV.x (.slice none 0 0), he.trans (if_neg k0).symm, fun h => absurd (he.symm.trans h) k0, rfl, rfl⟩, ⟨rfl, rfl, rfl, rfl, trivial⟩, rfl⟩
      · rintro L h ⟨e, a, he, hae, rfl, rfl⟩
        refine wCut (fun L h => ∃ e a, e = cR3 s ∧ (e = 0 → a = slD (readD (tA s).1).1) ∧ L = [(2, nP g2), (5, nP g5), (7, sA (tA s).1), (8, iA e)] ∧ h = [.cells g2 55 (iL zeroV ++ [.x (.slice none 0 0)]), rdO p (tA s).2, .cells g5 55 (iL (rV s) ++ [a])]) ?_ ?_
        · refine wSeq ?_
          refine wReg ?_
          refine sP rfl rfl rfl (pM rfl rfl) ?_
          refine sP rfl rfl rfl (p_icmp rfl rfl rfl rfl) ?_
          refine lNil ?_
          refine wCond rfl (fun hc3 => ?_) (fun hc3 => ?_)
          · have k0 : cR2 s = 0 := by rw [← he]; simpa using hc3
            obtain rfl := hae (he.trans k0)
            refine wReg ?_
            refine sP rfl rfl rfl (pLdW 2 rfl rfl rfl ty55 (ctx_len hVl)) ?_
            refine sP rfl rfl rfl (p_call rfl (ccheck_p (rV s, (readD (tA s).1).1) hVl (by have := readD_len (tA s).1; show (readD (tA s).1).1.length < 1000000; omega)) ⟨Sub.refl, trivial⟩) ?_
            refine sP rfl rfl rfl (pA rfl rfl) ?_
            refine lNil ?_
            exact ⟨_, [.cells g2 55 (iL zeroV ++ [.x (.slice none 0 0)]), rdO p (tA s).2, .cells g5 55 (iL (rV s) ++ [slD (readD (tA s).1).1])], [], ⟨ctxE (rV s, (readD (tA s).1).1), slD (readD (tA s).1).1, (if_pos k0).symm, fun _ => rfl, rfl, rfl⟩, ⟨rfl, rfl, rfl, rfl, trivial⟩, rfl⟩
          · refine wSkip ?_
            have k0 : cR2 s ≠ 0 := by rw [← he]; simpa using hc3
            exact ⟨_, [.cells g2 55 (iL zeroV ++ [.x (.slice none 0 0)]), rdO p (tA s).2, .cells g5 55 (iL (rV s) ++ [a])], [], ⟨e, a, he.trans (if_neg k0).symm, fun h => absurd (he.symm.trans h) k0, rfl, rfl⟩, ⟨rfl, rfl, rfl, rfl, trivial⟩, rfl⟩
        · rintro L h ⟨e, a, he, hae, rfl, rfl⟩
          refine wSeq ?_
          refine wSeq ?_
          refine wReg ?_
          refine sP rfl rfl rfl (pM rfl rfl) ?_
          refine sP rfl rfl rfl (p_icmp rfl rfl rfl rfl) ?_
          refine lNil ?_
          refine wCond rfl (fun hc4 => ?_) (fun hc4 => ?_)
          · refine wSeq ?_
            refine wReg ?_
            refine sP rfl rfl rfl (p_build (res := (iL zeroV ++ [.x (.slice none 0 0)])) rfl ze55 pl55 rfl rfl) ?_
            refine sP rfl rfl rfl (pM rfl rfl) ?_
            refine sStore 0 rfl rfl rfl rfl rfl ty55 rfl rfl rfl (Nat.le_of_ble_eq_true rfl) ?_
            refine sP rfl rfl rfl (pA rfl rfl) ?_
            refine lNil ?_
            refine wRet ?_
            have k3 : creadE s ≠ 0 := by rw [← cR_end, ← he]; simpa using hc4
            rw [creadT_e k3]
            exact rgs2 (rg_cell rfl (List.mem_of_getElem? (i := 0) rfl) ty55 (.inl ⟨rfl, Nat.le_refl _, rfl⟩) (gives_sub zeroC_sub)) (rg_tmp (gives_sub (Sub.of_eq (avI (by rw [← cR_end, ← he])))))
          · refine wSkip ?_
            obtain rfl := hae (by simpa using hc4)
            refine wSeq ?_
            refine wReg ?_
            refine sP rfl rfl rfl (pLdW 2 rfl rfl rfl ty55 (ctx_len hVl)) ?_
            refine sStore 0 rfl rfl rfl rfl rfl ty55 rfl (ctx_ones' (c := (rV s, (readD (tA s).1).1)) hVl) (ctx_len' (c := (rV s, (readD (tA s).1).1)) hVl) (Nat.le_of_ble_eq_true rfl) ?_
            refine sP rfl rfl rfl (pA rfl rfl) ?_
            refine lNil ?_
            refine wRet ?_
            have k3 : creadE s = 0 := by rw [← cR_end, ← he]; simpa using hc4
            rw [creadT_o k3]
            have hsp : spl (iL zeroV ++ [.x (.slice none 0 0)]) 0 (encCt (rV s, (readD (tA s).1).1)) = (encCt (rV s, (readD (tA s).1).1)) := ctx_spl rfl (ctx_len' (c := (rV s, (readD (tA s).1).1)) hVl)
            exact rgs2 (rg_cell rfl (List.mem_of_getElem? (i := 0) rfl) ty55 (.inl ⟨rfl, by show 17 ≤ (spl (iL zeroV ++ [.x (.slice none 0 0)]) 0 (encCt (rV s, (readD (tA s).1).1))).length; rw [hsp]; exact Nat.le_of_eq (ctx_len' (c := (rV s, (readD (tA s).1).1)) hVl).symm, rfl⟩) (gives_sub (Sub.of_eq (by show AV.agg ((spl (iL zeroV ++ [.x (.slice none 0 0)]) 0 (encCt (rV s, (readD (tA s).1).1))).take 17) = _; rw [hsp]; exact congrArg AV.agg (List.take_of_length_le (Nat.le_of_eq (ctx_len' (c := (rV s, (readD (tA s).1).1)) hVl))))))) (rg_tmp (gives_sub (Sub.of_eq (avI k3.symm))))
end Go.Proofs.Ytmhkalalcmkpbaa

namespace Go.Proofs.Ytmhkalalcmkpbaa
open Go Go.RowKit
set_option linter.unusedVariables false
set_option linter.unusedSimpArgs false

theorem rdsame_is {a b : List (Int × Int)} {r : Bool} (h : decide (a = b) = r) (h1 : a.length < 1000000) (h2 : b.length < 1000000) : PFn Try.prog False 57 [slD a, slD b] (bA r) := h ▸ rdsame_p a b h1 h2
def xV : List Int := [2, 0, 0, 0, 0, 0, 0, 0, 0, 0, 0, 0, 0, 0, 0, 0]
def xC : CtxT := (xV, [(1, 3)])
def bC : CtxT := (zeroV, [(0, 1)])
def xL : List (Int × Int) := [(0, 2), (0, 1), (1, 3)]
def mL : List (Int × Int) := [(0, 1), (0, 2), (1, 3)]
theorem aw13_add : addF zeroC xL = xC := by kernel_rfl
theorem aw13_put : cputE xC = 0 := by kernel_rfl
theorem aw13_bad : cputE bC = 5 := by kernel_rfl
theorem aw13_h1 : hasC xC (0, 1) = true := by kernel_rfl
theorem aw13_h2 : hasC xC (1, 1) = false := by kernel_rfl
theorem aw13_miss : missF zeroC xC = mL := by kernel_rfl
theorem aw13_cmp : compareF xC zeroC = 1 := by kernel_rfl
theorem cputS_size {c : CtxT} (hv : c.1.length = 16) (hn : c.2.length < 1000000) : (cputS c).size < 9223372036854775807 := by
  unfold cputS
  split
  · decide
  · rw [ByteArray.size_append]
    have h := cat_size (k := 8) (c.1.map numS) fun x hx => by obtain ⟨n, _, rfl⟩ := List.mem_map.1 hx; exact numS_size n
    rw [List.length_map] at h
    have := txS_size (putS c.2); have := putSD_size c.2; omega
theorem cadd_is {c : CtxT} {l : List (Int × Int)} {r : CtxT} (hv : c.1.length = 16) (hn : c.2.length < 500000) (hl : l.length < 500000) (h : addF c l = r) : PFn Try.prog False 39 [ctA c, slD l] (ctA r) := h ▸ cadd_p c l hv hn hl
theorem cput_is {c : CtxT} {e : Int} (hv : c.1.length = 16) (hn : c.2.length < 1000000) (h : cputE c = e) : PFn Try.prog False 35 [ctA c] (.tup [sA (cputS c), iA e]) := h ▸ cput_p c hv hn
theorem cread_is {s : ByteArray} {c : CtxT} {e : Int} (hs : s.size < 9223372036854775807) (h : creadT s = c) (he : creadE s = e) : PFn Try.prog False 37 [sA s] (.tup [ctA c, iA e]) := h ▸ he ▸ cread_p s hs
theorem chas_is {c : CtxT} {d : Int × Int} {b : Bool} (hv : c.1.length = 16) (hn : c.2.length < 1000000) (h : hasC c d = b) : PFn Try.prog False 40 [ctA c, dA d] (bA b) := h ▸ chas_p c d hv hn
theorem cmiss_is {y z : CtxT} {l : List (Int × Int)} (ha : y.1.length = 16) (hb0 : z.1.length = 16) (ha2 : y.2.length < 1000000) (hb2 : z.2.length < 1000000) (h : missF y z = l) : PFn Try.prog False 58 [ctA y, ctA z] (slD l) := h ▸ cmiss_p y z ha hb0 ha2 hb2
theorem ccompare_is {y z : CtxT} {n : Int} (ha : y.1.length = 16) (hb0 : z.1.length = 16) (ha2 : y.2.length < 1000000) (hb2 : z.2.length < 1000000) (h : compareF y z = n) : PFn Try.prog False 60 [ctA y, ctA z] (iA n) := h ▸ ccompare_p y z ha hb0 ha2 hb2

set_option maxRecDepth 100000 in
theorem rcsame_p (y z : CtxT) (ha : y.1.length = 16) (hb : z.1.length = 16) (ha2 : y.2.length < 1000000) (hb2 : z.2.length < 1000000) : PFn Try.prog False 28 [ctA y, ctA z] (bA (decide (y = z))) := by
  refine pfn Try.func28 rfl (by kernel_rfl) 17 rfl _ rfl (Nat.le_of_ble_eq_true rfl) (fun X w0 => ?_)
  refine wSeq ?_
  refine wReg ?_
  refine sBox rfl rfl rfl rfl rfl (fun g2 => ?_)
  refine sBox rfl rfl rfl rfl rfl (fun g3 => ?_)
  refine sP rfl rfl rfl (pA rfl rfl) ?_
  refine lNil ?_
  refine wCut (fun L h => ∃ b : Bool, b = (decide (y = z)) ∧ L = [(2, .x (.pointer (some ⟨g2, 0, none⟩))), (4, bA b)] ∧ h = []) ?_ ?_
  · rcases eqC_cases y z with ⟨e1, hbv⟩ | ⟨e1, e2, hbv⟩ | ⟨e1, e2, hbv⟩
    · refine wReg ?_
      refine sP rfl rfl rfl (p_fieldAddr_own rfl rfl fl55_0 ty53 (by decide)) ?_
      refine sP rfl rfl rfl (pLdO 0 rfl rfl rfl ty53 (ctx_le ha) (ctx_V ha)) ?_
      refine sP rfl rfl rfl (p_fieldAddr_own rfl rfl fl55_0 ty53 (by decide)) ?_
      refine sP rfl rfl rfl (pLdO 1 rfl rfl rfl ty53 (ctx_le hb) (ctx_V hb)) ?_
      refine sP rfl rfl rfl (p_eqs (r := false) rfl rfl rfl (exL_ints _) (exL_ints _) guardV (fun w => eqV_f ha hb e1)) ?_
      refine sP rfl rfl rfl (pM rfl rfl) ?_
      refine sUx rfl rfl rfl (by decide) rfl rfl ?_
      refine sUx rfl rfl rfl (by decide) rfl rfl ?_
      refine sUx rfl rfl rfl (by decide) rfl rfl ?_
      refine sUx rfl rfl rfl (by decide) rfl rfl ?_
      refine sUx rfl rfl rfl (by decide) rfl rfl ?_
      refine sP rfl rfl rfl (p_pick rfl rfl rfl) ?_
      refine sP rfl rfl rfl (pA rfl rfl) ?_
      refine lNil ?_
      exact ⟨_, [], _, ⟨_, (by exact hbv.symm), rfl, rfl⟩, ⟨rfl, rfl, trivial⟩, rfl⟩
    · refine wReg ?_
      refine sP rfl rfl rfl (p_fieldAddr_own rfl rfl fl55_0 ty53 (by decide)) ?_
      refine sP rfl rfl rfl (pLdO 0 rfl rfl rfl ty53 (ctx_le ha) (ctx_V ha)) ?_
      refine sP rfl rfl rfl (p_fieldAddr_own rfl rfl fl55_0 ty53 (by decide)) ?_
      refine sP rfl rfl rfl (pLdO 1 rfl rfl rfl ty53 (ctx_le hb) (ctx_V hb)) ?_
      refine sP rfl rfl rfl (p_eqs (r := true) rfl rfl rfl (exL_ints _) (exL_ints _) guardV (fun w => eqV_t ha hb e1)) ?_
      refine sP rfl rfl rfl (pM rfl rfl) ?_
      refine sG rfl rfl rfl rfl rfl (p_fieldAddr_own rfl rfl fl55_1 ty27 (by decide)) ?_
      refine sG rfl rfl rfl rfl rfl (pLdO1 0 rfl rfl rfl ty27 (ctx_C ha)) ?_
      refine sG rfl rfl rfl rfl rfl (p_fieldAddr_own rfl rfl fl55_1 ty27 (by decide)) ?_
      refine sG rfl rfl rfl rfl rfl (pLdO1 1 rfl rfl rfl ty27 (ctx_C hb)) ?_
      refine sG rfl rfl rfl rfl rfl (p_call rfl (rdsame_is (decide_eq_false e2) ha2 hb2) ⟨Sub.refl, Sub.refl, trivial⟩) ?_
      refine sP rfl rfl rfl (p_pick rfl rfl rfl) ?_
      refine sP rfl rfl rfl (pA rfl rfl) ?_
      refine lNil ?_
      exact ⟨_, [], _, ⟨_, (by exact hbv.symm), rfl, rfl⟩, ⟨rfl, rfl, trivial⟩, rfl⟩
    · refine wReg ?_
      refine sP rfl rfl rfl (p_fieldAddr_own rfl rfl fl55_0 ty53 (by decide)) ?_
      refine sP rfl rfl rfl (pLdO 0 rfl rfl rfl ty53 (ctx_le ha) (ctx_V ha)) ?_
      refine sP rfl rfl rfl (p_fieldAddr_own rfl rfl fl55_0 ty53 (by decide)) ?_
      refine sP rfl rfl rfl (pLdO 1 rfl rfl rfl ty53 (ctx_le hb) (ctx_V hb)) ?_
      refine sP rfl rfl rfl (p_eqs (r := true) rfl rfl rfl (exL_ints _) (exL_ints _) guardV (fun w => eqV_t ha hb e1)) ?_
      refine sP rfl rfl rfl (pM rfl rfl) ?_
      refine sG rfl rfl rfl rfl rfl (p_fieldAddr_own rfl rfl fl55_1 ty27 (by decide)) ?_
      refine sG rfl rfl rfl rfl rfl (pLdO1 0 rfl rfl rfl ty27 (ctx_C ha)) ?_
      refine sG rfl rfl rfl rfl rfl (p_fieldAddr_own rfl rfl fl55_1 ty27 (by decide)) ?_
      refine sG rfl rfl rfl rfl rfl (pLdO1 1 rfl rfl rfl ty27 (ctx_C hb)) ?_
      refine sG rfl rfl rfl rfl rfl (p_call rfl (rdsame_is (decide_eq_true e2) ha2 hb2) ⟨Sub.refl, Sub.refl, trivial⟩) ?_
      refine sP rfl rfl rfl (p_pick rfl rfl rfl) ?_
      refine sP rfl rfl rfl (pA rfl rfl) ?_
      refine lNil ?_
      exact ⟨_, [], _, ⟨_, (by exact hbv.symm), rfl, rfl⟩, ⟨rfl, rfl, trivial⟩, rfl⟩
  · rintro L h ⟨bb, hbb, rfl, rfl⟩
    refine wRet ?_
    exact rgs1 (rg_tmp (gives_sub (Sub.of_eq (avB hbb))))
theorem rcsame_is {y z : CtxT} {b : Bool} (ha : y.1.length = 16) (hb : z.1.length = 16) (ha2 : y.2.length < 1000000) (hb2 : z.2.length < 1000000) (h : decide (y = z) = b) : PFn Try.prog False 28 [ctA y, ctA z] (bA b) := h ▸ rcsame_p y z ha hb ha2 hb2

def fewC (c : CtxT) : Bool := decide ((c.2.length : Int) ≤ 40)

set_option maxRecDepth 100000 in
theorem few13_p (c : CtxT) (hv : c.1.length = 16) : PFn Try.prog False 25 [ctA c] (bA (fewC c)) := by
  refine pfn Try.func25 rfl (by kernel_rfl) 7 rfl _ rfl (Nat.le_of_ble_eq_true rfl) (fun X w0 => ?_)
  refine wSeq ?_
  refine wReg ?_
  refine sBox rfl rfl rfl rfl rfl (fun g1 => ?_)
  refine sP rfl rfl rfl (pA rfl rfl) ?_
  refine lNil ?_
  refine wSeq ?_
  refine wReg ?_
  refine sP rfl rfl rfl (p_fieldAddr_own rfl rfl fl55_1 ty27 (by decide)) ?_
  refine sP rfl rfl rfl (pLdO1 0 rfl rfl rfl ty27 (ctx_C hv)) ?_
  refine sP rfl rfl rfl (p_len_sl rfl rfl Try.underlying27) ?_
  refine sP rfl rfl rfl (p_icmp rfl rfl rfl rfl) ?_
  refine sP rfl rfl rfl (pA rfl rfl) ?_
  refine lNil ?_
  refine wRet ?_
  exact rgs1 (rg_tmp (gives_sub (Sub.of_eq (rfl))))
set_option maxHeartbeats 1000000 in
set_option maxRecDepth 100000 in
theorem awake13_p : PFn Try.prog False 34 [] (bA true) := by
  refine pfn Try.func34 rfl (by kernel_rfl) 81 rfl _ rfl (Nat.le_of_ble_eq_true rfl) (fun X w0 => ?_)
  refine wSeq ?_
  refine wReg ?_
  refine sP rfl rfl rfl (pA rfl rfl) ?_
  refine lNil ?_
  refine wSeq ?_
  refine wReg ?_
  refine sP rfl rfl rfl (p_build (res := (iL zeroV ++ [.x (.slice none 0 0)])) rfl ze55 pl55 rfl rfl) ?_
  refine sP rfl rfl rfl (p_build (res := [iA 0, iA 2]) rfl ze23 pl23 rfl rfl) ?_
  refine sP rfl rfl rfl (p_build (res := [iA 0, iA 1]) rfl ze23 pl23 rfl rfl) ?_
  refine sP rfl rfl rfl (p_build (res := [iA 1, iA 3]) rfl ze23 pl23 rfl rfl) ?_
  refine sP rfl rfl rfl (p_buildSlice (res := (xL : List (Int × Int)).flatMap encA) rfl ze23 Try.underlying27 ty23 (by decide) (by decide) rfl rfl rfl) ?_
  refine sP rfl rfl rfl (p_call rfl (cadd_is (c := zeroC) (l := xL) rfl (by decide) (by decide) aw13_add) ⟨zeroC_sub, Sub.refl, trivial⟩) ?_
  refine sAlloc rfl rfl rfl rfl ze55 (fun g1 => ?_)
  refine sStore 0 rfl rfl rfl rfl rfl ty55 rfl rfl rfl (Nat.le_of_ble_eq_true rfl) ?_
  refine lNil ?_
  refine wSeq ?_
  refine wReg ?_
  refine sP rfl rfl rfl (pLdW 0 rfl rfl rfl ty55 rfl) ?_
  refine sP rfl rfl rfl (p_call rfl (cput_is (c := xC) rfl (by decide) aw13_put) ⟨Sub.refl, trivial⟩) ?_
  refine sP rfl rfl rfl (pMt rfl rfl) ?_
  refine sP rfl rfl rfl (p_extract rfl rfl rfl) ?_
  refine sP rfl rfl rfl (p_extract rfl rfl rfl) ?_
  refine sP rfl rfl rfl (pA rfl rfl) ?_
  refine sP rfl rfl rfl (pA rfl rfl) ?_
  refine lNil ?_
  refine wSeq ?_
  refine wReg ?_
  refine sP rfl rfl rfl (pM rfl rfl) ?_
  refine sP rfl rfl rfl (p_call rfl (cread_is (s := cputS xC) (cputS_size rfl (by decide)) (cread_put (c := xC) rfl aw13_put).2 (cread_put (c := xC) rfl aw13_put).1) ⟨Sub.refl, trivial⟩) ?_
  refine sP rfl rfl rfl (pMt rfl rfl) ?_
  refine sP rfl rfl rfl (p_extract rfl rfl rfl) ?_
  refine sP rfl rfl rfl (p_extract rfl rfl rfl) ?_
  refine sAlloc rfl rfl rfl rfl ze55 (fun g4 => ?_)
  refine sStore 1 rfl rfl rfl rfl rfl ty55 rfl rfl rfl (Nat.le_of_ble_eq_true rfl) ?_
  refine sP rfl rfl rfl (pA rfl rfl) ?_
  refine lNil ?_
  refine wSeq ?_
  refine wReg ?_
  refine sP rfl rfl rfl (p_build (res := [iA 0, iA 1]) rfl ze23 pl23 rfl rfl) ?_
  refine sP rfl rfl rfl (p_buildSlice (res := ([(0, 1)] : List (Int × Int)).flatMap encA) rfl ze23 Try.underlying27 ty23 (by decide) (by decide) rfl rfl rfl) ?_
  refine sP rfl rfl rfl (p_build (res := (encCt bC)) rfl ze55 pl55 rfl rfl) ?_
  refine sP rfl rfl rfl (p_call rfl (cput_is (c := bC) rfl (by decide) aw13_bad) ⟨Sub.refl, trivial⟩) ?_
  refine sP rfl rfl rfl (pMt rfl rfl) ?_
  refine sP rfl rfl rfl (p_extract rfl rfl rfl) ?_
  refine sP rfl rfl rfl (p_extract rfl rfl rfl) ?_
  refine sP rfl rfl rfl (pA rfl rfl) ?_
  refine sP rfl rfl rfl (pA rfl rfl) ?_
  refine lNil ?_
  refine wSeq ?_
  refine wReg ?_
  refine sP rfl rfl rfl (pLdW 0 rfl rfl rfl ty55 rfl) ?_
  refine sP rfl rfl rfl (p_build_arr (res := iL xV) rfl ze53 Try.underlying53 ty3 rfl rfl) ?_
  refine sP rfl rfl rfl (p_build (res := [iA 1, iA 3]) rfl ze23 pl23 rfl rfl) ?_
  refine sP rfl rfl rfl (p_buildSlice (res := ([(1, 3)] : List (Int × Int)).flatMap encA) rfl ze23 Try.underlying27 ty23 (by decide) (by decide) rfl rfl rfl) ?_
  refine sP rfl rfl rfl (p_build (res := (encCt xC)) rfl ze55 pl55 rfl rfl) ?_
  refine sP rfl rfl rfl (p_call rfl (rcsame_is (y := xC) (z := xC) rfl rfl (by decide) (by decide) (decide_eq_true rfl)) ⟨Sub.refl, Sub.refl, trivial⟩) ?_
  refine sP rfl rfl rfl (pM rfl rfl) ?_
  refine sG rfl rfl rfl rfl rfl (pM rfl rfl) ?_
  refine sG rfl rfl rfl rfl rfl (p_icmp rfl rfl rfl (eql_t rfl)) ?_
  refine sP rfl rfl rfl (p_pick rfl rfl rfl) ?_
  refine sP rfl rfl rfl (pM rfl rfl) ?_
  refine sG rfl rfl rfl rfl rfl (pLdW 1 rfl rfl rfl ty55 rfl) ?_
  refine sG rfl rfl rfl rfl rfl (pLdW 0 rfl rfl rfl ty55 rfl) ?_
  refine sG rfl rfl rfl rfl rfl (p_call rfl (rcsame_is (y := xC) (z := xC) rfl rfl (by decide) (by decide) (decide_eq_true rfl)) ⟨Sub.refl, Sub.refl, trivial⟩) ?_
  refine sP rfl rfl rfl (p_pick rfl rfl rfl) ?_
  refine sP rfl rfl rfl (pM rfl rfl) ?_
  refine sG rfl rfl rfl rfl rfl (pM rfl rfl) ?_
  refine sG rfl rfl rfl rfl rfl (p_icmp rfl rfl rfl (eql_t rfl)) ?_
  refine sP rfl rfl rfl (p_pick rfl rfl rfl) ?_
  refine sP rfl rfl rfl (pM rfl rfl) ?_
  refine sG rfl rfl rfl rfl rfl (pM rfl rfl) ?_
  refine sG rfl rfl rfl rfl rfl (p_icmp rfl rfl rfl (eql_t rfl)) ?_
  refine sP rfl rfl rfl (p_pick rfl rfl rfl) ?_
  refine sP rfl rfl rfl (pM rfl rfl) ?_
  refine sG rfl rfl rfl rfl rfl (pLdW 0 rfl rfl rfl ty55 rfl) ?_
  refine sG rfl rfl rfl rfl rfl (p_build (res := [iA 0, iA 1]) rfl ze23 pl23 rfl rfl) ?_
  refine sG rfl rfl rfl rfl rfl (p_call rfl (chas_is (c := xC) rfl (by decide) aw13_h1) ⟨Sub.refl, Sub.refl, trivial⟩) ?_
  refine sP rfl rfl rfl (p_pick rfl rfl rfl) ?_
  refine sP rfl rfl rfl (pM rfl rfl) ?_
  refine sG rfl rfl rfl rfl rfl (pLdW 0 rfl rfl rfl ty55 rfl) ?_
  refine sG rfl rfl rfl rfl rfl (p_build (res := [iA 1, iA 1]) rfl ze23 pl23 rfl rfl) ?_
  refine sG rfl rfl rfl rfl rfl (p_call rfl (chas_is (c := xC) rfl (by decide) aw13_h2) ⟨Sub.refl, Sub.refl, trivial⟩) ?_
  refine sG rfl rfl rfl rfl rfl (p_not rfl rfl) ?_
  refine sP rfl rfl rfl (p_pick rfl rfl rfl) ?_
  refine sP rfl rfl rfl (pM rfl rfl) ?_
  refine sG rfl rfl rfl rfl rfl (p_build (res := (iL zeroV ++ [.x (.slice none 0 0)])) rfl ze55 pl55 rfl rfl) ?_
  refine sG rfl rfl rfl rfl rfl (pLdW 0 rfl rfl rfl ty55 rfl) ?_
  refine sG rfl rfl rfl rfl rfl (p_call rfl (cmiss_is (y := zeroC) (z := xC) rfl rfl (by decide) (by decide) aw13_miss) ⟨zeroC_sub, Sub.refl, trivial⟩) ?_
  refine sG rfl rfl rfl rfl rfl (p_build (res := [iA 0, iA 1]) rfl ze23 pl23 rfl rfl) ?_
  refine sG rfl rfl rfl rfl rfl (p_build (res := [iA 0, iA 2]) rfl ze23 pl23 rfl rfl) ?_
  refine sG rfl rfl rfl rfl rfl (p_build (res := [iA 1, iA 3]) rfl ze23 pl23 rfl rfl) ?_
  refine sG rfl rfl rfl rfl rfl (p_buildSlice (res := (mL : List (Int × Int)).flatMap encA) rfl ze23 Try.underlying27 ty23 (by decide) (by decide) rfl rfl rfl) ?_
  refine sG rfl rfl rfl rfl rfl (p_call rfl (rdsame_is (a := mL) (b := mL) (decide_eq_true rfl) (by decide) (by decide)) ⟨Sub.refl, Sub.refl, trivial⟩) ?_
  refine sP rfl rfl rfl (p_pick rfl rfl rfl) ?_
  refine sP rfl rfl rfl (pM rfl rfl) ?_
  refine sG rfl rfl rfl rfl rfl (pLdW 0 rfl rfl rfl ty55 rfl) ?_
  refine sG rfl rfl rfl rfl rfl (p_build (res := (iL zeroV ++ [.x (.slice none 0 0)])) rfl ze55 pl55 rfl rfl) ?_
  refine sG rfl rfl rfl rfl rfl (p_call rfl (ccompare_is (y := xC) (z := zeroC) rfl rfl (by decide) (by decide) aw13_cmp) ⟨Sub.refl, zeroC_sub, trivial⟩) ?_
  refine sG rfl rfl rfl rfl rfl (p_icmp rfl rfl rfl (eql_t rfl)) ?_
  refine sP rfl rfl rfl (p_pick rfl rfl rfl) ?_
  refine sP rfl rfl rfl (pA rfl rfl) ?_
  refine lNil ?_
  refine wRet ?_
  exact rgs1 (rg_tmp (gives_sub (Sub.of_eq (rfl))))
end Go.Proofs.Ytmhkalalcmkpbaa

namespace Go.Proofs.Ytmhkalalcmkpbaa
open Go Go.RowKit
set_option linter.unusedVariables false
set_option linter.unusedSimpArgs false

section
variable {P : Program} {C : Cx} {Q : Exit → AS → Prop} {s : AS}

theorem aw_drawB {id : Nat} {ops : Array Oper} (hm : P.follows .mixedOrders = true) (n : Nat) (hok : drawOkB ops n C.N = true)
    (hc : Chain P C.w0.K C.N C.X s.h ops (ops.toList.take n) s.t fun f => AWL P C ops Q (ops.toList.drop n) ⟨f, s.h⟩) : AW P C (.region id ops true) Q s := by
  intro a0 w00 hs0
  have ok := drawOkB_spec hok
  clear hok
  obtain ⟨fs, vs, hf0, hK, hstep⟩ := hc.steps
  have hlen : (ops.toList.take n).length = n := by rw [List.length_take, Array.length_toList]; exact Nat.min_eq_left ok.le
  rw [hlen] at hK
  have hget : ∀ i, i < n → ∀ (o : Oper), ops[i]? = some o → (ops.toList.take n)[i]? = some o := fun i hi o ho => by
    rw [List.getElem?_take, if_pos hi]; simpa using ho
  -- what the chain's frames hold
  have keep : ∀ t, (∀ (j : Nat) (p : Oper), j < n → ops[j]? = some p → p.dst ≠ some t) → ∀ i, i ≤ n → fs i t = s.t t := by
    intro t ht i
    induction i with
    | zero => intro _; rw [hf0]
    | succ i ih =>
      intro hi
      have hlt : i < ops.size := Nat.lt_of_lt_of_le (by omega) ok.le
      have ho : ops[i]? = some ops[i] := Array.getElem?_eq_getElem hlt
      rw [(hstep i _ (hget i (by omega) _ ho)).2]
      have hne := ht i _ (by omega) ho
      cases hd : ops[i].dst with
      | none => exact ih (by omega)
      | some d =>
        rw [hd] at hne
        have hne : t ≠ d := fun e => hne (by rw [e])
        show (bif Nat.blt d C.N then upd (fs i) d (vs i) else fs i) t = _
        cases Nat.blt d C.N with
        | true => simp only [cond_true]; rw [upd_ne _ _ hne]; exact ih (by omega)
        | false => exact ih (by omega)
  have holds : ∀ (j : Nat) (p : Oper) t, j < n → ops[j]? = some p → p.dst = some t → ∀ i, j < i → i ≤ n → fs i t = vs j := by
    intro j p t hj hp hd i
    induction i with
    | zero => intro h; omega
    | succ i ih =>
      intro h1 h2
      have hlt : i < ops.size := Nat.lt_of_lt_of_le (by omega) ok.le
      have ho : ops[i]? = some ops[i] := Array.getElem?_eq_getElem hlt
      rw [(hstep i _ (hget i (by omega) _ ho)).2]
      by_cases hij : i = j
      · subst hij
        rw [hp] at ho
        obtain rfl : p = ops[i] := by injection ho
        have hb : Nat.blt t C.N = true := by simpa [Nat.blt_eq] using ok.lt i _ t hj hp hd
        rw [hd]
        show (bif Nat.blt t C.N then upd (fs i) t (vs i) else fs i) t = _
        rw [hb]; simp only [cond_true]; rw [upd_same]
      · have := ih (by omega) (by omega)
        cases hd' : ops[i].dst with
        | none => exact this
        | some d =>
          have hne : t ≠ d := fun e => hij (ok.uniq i j _ _ d (by omega) hj ho hp hd' (by rw [hd, e]))
          show (bif Nat.blt d C.N then upd (fs i) d (vs i) else fs i) t = _
          cases Nat.blt d C.N with
          | true => simp only [cond_true]; rw [upd_ne _ _ hne]; exact this
          | false => exact this
  -- the invariant
  let w1 : World := { w00 with drawn := w00.drawn + 1 }
  have hbw : Bl C.w0.K w00 w1 := ⟨⟨rfl, rfl, rfl, Nat.le_refl _, fun _ _ => rfl⟩, fun _ => Nat.le_succ _⟩
  have hs1 : C.St s a0 w1 := hs0.below_ hbw
  let A : Array Bool → Act → World → Prop := fun listed a w =>
    listed.size = ops.size ∧ Bl C.w0.K w1 w ∧ a.defers = [] ∧ a.tmps.size = C.N ∧
    (∀ t, (∀ (j : Nat) (p : Oper), j < n → ops[j]? = some p → p.dst ≠ some t) → Rep (owned C.X s.h) w (s.t t) (a.tmps.getD t undef)) ∧
    (∀ (j : Nat) (p : Oper) t, j < n → ops[j]? = some p → p.dst = some t → listed.getD j false = true → Rep (owned C.X s.h) w (vs j) (a.tmps.getD t undef)) ∧
    ∀ j, n ≤ j → listed.getD j false = false
  let B : Array Bool → Act → World → Prop := fun listed a w =>
    listed.size = ops.size ∧ ∃ k, n ≤ k ∧ k ≤ ops.size ∧ (∀ j, j < k → listed.getD j false = true) ∧ (∀ j, k ≤ j → listed.getD j false = false) ∧ wpList P ops (up C Q) (ops.toList.drop k) a w
  -- all of the first ones have come up
  have full : ∀ listed a w, A listed a w → (∀ j, j < n → listed.getD j false = true) → C.St ⟨fs n, s.h⟩ a w := by
    intro listed a w ⟨h1, h2, h3, h4, h5, h6, h7⟩ hall
    refine ⟨hs1.env.below_ h2, h3, h4, fun t => ?_⟩
    by_cases ht : ∃ (j : Nat) (p : Oper), j < n ∧ ops[j]? = some p ∧ p.dst = some t
    · obtain ⟨j, p, hj, hp, hd⟩ := ht
      show Rep _ _ (fs n t) _
      rw [holds j p t hj hp hd n hj (Nat.le_refl _)]
      exact h6 j p t hj hp hd (hall j hj)
    · have ht' : ∀ (j : Nat) (p : Oper), j < n → ops[j]? = some p → p.dst ≠ some t := fun j p hj hp hd => ht ⟨j, p, hj, hp, hd⟩
      show Rep _ _ (fs n t) _
      rw [keep t ht' n (Nat.le_refl _)]
      exact h5 t ht'
  have stepB : ∀ listed a w i, Dn ops listed → B listed a w → i ∈ Region.ready .any ops listed → wpOp P ops (up C Q) i (fun a w => (A (listed.setIfInBounds i true) a w ∨ B (listed.setIfInBounds i true) a w) ∧ Dn ops (listed.setIfInBounds i true)) a w := by
    intro listed a w i hdn ⟨hsz, k, h1, h2, h3, h4, h5⟩ hi
    obtain ⟨h0, o, ho, hall⟩ := mem_ready.1 hi
    have hlt : i < ops.size := (Array.getElem?_eq_some_iff.1 ho).1
    have hki : k ≤ i := by
      rcases Nat.lt_or_ge i k with h | h
      · have := h3 i h
        have hl : i < listed.size := by omega
        simp [hl] at this h0
        rw [this] at h0; cases h0
      · exact h
    obtain rfl : i = k := by
      rcases Nat.lt_or_ge k i with h | h
      · have := memT_listed hdn ops.size i k o ho hall (ok.tail i k o (by omega) h ho)
        rw [h4 k (Nat.le_refl _)] at this; cases this
      · omega
    have hd : ops.toList.drop i = o :: ops.toList.drop (i + 1) := by
      have hl : i < ops.toList.length := by simpa using hlt
      rw [List.drop_eq_getElem_cons hl]
      congr 1
      have := (Array.getElem?_eq_some_iff.1 ho).2
      simpa using this
    rw [hd] at h5
    have h5' : wpOp P ops (up C Q) i (wpList P ops (up C Q) (ops.toList.drop (i + 1))) a w := by
      unfold wpOp
      rw [ho]
      exact h5
    refine wpOp_mono (fun a' w' h => ⟨.inr ⟨by simpa using hsz, i + 1, by omega, by omega, fun j hj => ?_, fun j hj => ?_, h⟩, dn_step hdn hi⟩) h5'
    · by_cases hij : j = i
      · subst hij; have : j < listed.size := by omega
        simp [this]
      · rw [getD_set_ne false (Ne.symm hij)]; exact h3 j (by omega)
    · rw [getD_set_ne false (by omega)]; exact h4 j (by omega)
  refine wp_region_any hm (wpAny_inv (md := .any) (fun listed a w => (A listed a w ∨ B listed a w) ∧ Dn ops listed) ?_ ?_ ops.size _ a0 w1 ?_ ?_)
  · intro listed a w i ⟨hJ, hdn⟩ hi
    rcases hJ with hA | hB
    · have hA' := hA
      obtain ⟨h0, o, ho, hall⟩ := mem_ready.1 hi
      obtain ⟨h1, h2, h3, h4, h5, h6, h7⟩ := hA
      by_cases hin : i < n
      · -- one of the first
        obtain ⟨hp, hfs⟩ := hstep i o (hget i hin o ho)
        have env : Env C.X C.w0 s.h w := hs1.env.below_ h2
        have reads : ∀ t, (t ∈ opRds o ∨ ∃ g b, o.guard = some (g, b) ∧ (ops[g]?).bind (·.dst) = some t) → Rep (owned C.X s.h) w (fs i t) (a.tmps.getD t undef) := by
          intro t ht
          by_cases hw : ∃ (j : Nat) (p : Oper), j < n ∧ ops[j]? = some p ∧ p.dst = some t
          · obtain ⟨j, p, hj, hp, hd⟩ := hw
            obtain ⟨hji, e, he, hej, hb⟩ := ok.reads i j o p t hin hj ho hp hd ht
            rw [holds j p t hj hp hd i hji (Nat.le_of_lt hin)]
            exact h6 j p t hj hp hd (by have := hall e he hb; rwa [hej] at this)
          · have ht' : ∀ (j : Nat) (p : Oper), j < n → ops[j]? = some p → p.dst ≠ some t := fun j p hj hp hd => hw ⟨j, p, hj, hp, hd⟩
            rw [keep t ht' i (Nat.le_of_lt hin)]
            exact h5 t ht'
        have fin : ∀ v w', Bl C.w0.K w w' → Rep (owned C.X s.h) w' (vs i) v → A (listed.setIfInBounds i true) (a.put o.dst v) w' := by
          intro v w' hb hr
          have mono : ∀ {c : AV} {u : Value}, Rep (owned C.X s.h) w c u → Rep (owned C.X s.h) w' c u := fun h => Rep.mono (Kept.of_below hb.b) (fun _ _ h => h) _ _ h
          refine ⟨by simpa using h1, h2.trans hb, ?_, ?_, fun t ht => ?_, fun j p t hj hp hd hl => ?_, fun j hj => ?_⟩
          · cases o.dst <;> exact h3
          · cases o.dst <;> simpa [Act.put] using h4
          · have := mono (h5 t ht)
            cases hd : o.dst with
            | none => exact this
            | some d =>
              have hne : d ≠ t := fun e => ht i o hin ho (by rw [hd, e])
              simpa [Act.put, Array.getElem?_setIfInBounds_ne hne] using this
          · by_cases hij : i = j
            · subst hij
              rw [ho] at hp
              obtain rfl : o = p := by injection hp
              have hlt : t < a.tmps.size := by rw [h4]; exact ok.lt i o t hin ho hd
              rw [hd]
              simpa [Act.put, hlt] using hr
            · rw [getD_set_ne false hij] at hl
              have := mono (h6 j p t hj hp hd hl)
              cases hd' : o.dst with
              | none => exact this
              | some d =>
                have hne : d ≠ t := fun e => hij (ok.uniq i j o p d hin hj ho hp hd' (by rw [hd, e]))
                simpa [Act.put, Array.getElem?_setIfInBounds_ne hne] using this
          · rw [getD_set_ne false (by omega)]; exact h7 j hj
        unfold wpOp
        rw [ho]
        simp only []
        rcases hp with ⟨hg, hp⟩ | ⟨g, b, b', t, hg, hgd, hft, hy, hn⟩ | ⟨g, b, t, hg, hgd, hft, hav⟩
        · rw [wanted_none hg]
          exact .inl (hp a w C.w0 rfl env h4 (fun t ht => reads t (.inl ht)) _ _ fun v w' hb hr => ⟨.inl (fin v w' hb hr), dn_step hdn hi⟩)
        · have hr := reads t (.inr ⟨g, b, hg, hgd⟩)
          rw [hft] at hr
          simp only [Rep] at hr
          have hyl := yield_bool hgd hr
          by_cases hbb : b' = b
          · subst hbb
            rw [show Region.wanted o (yielded ops a.tmps) = true by simp [Region.wanted, hg, hyl]]
            exact .inl (hy rfl a w C.w0 rfl env h4 (fun t ht => reads t (.inl ht)) _ _ fun v w' hb hr => ⟨.inl (fin v w' hb hr), dn_step hdn hi⟩)
          · rw [show Region.wanted o (yielded ops a.tmps) = false by simp [Region.wanted, hg, hyl, hbb]]
            exact ⟨.inl (fin undef w (Bl.refl _ _) (by
              rcases hn hbb with e | e
              · rw [e]; exact undef_rep
              · rw [e]; simp only [Rep])), dn_step hdn hi⟩
        · have hr := reads t (.inr ⟨g, b, hg, hgd⟩)
          rw [hft] at hr
          simp only [Rep] at hr
          have hyl : yielded ops a.tmps g = none := by
            unfold yielded
            rw [hgd]
            show (match a.tmps[t]? with | some (.bool b) => some b | _ => none) = none
            rw [Array.getD_eq_getD_getElem?] at hr
            cases hh : a.tmps[t]? with
            | none => rfl
            | some v => rw [hh] at hr; obtain rfl : v = undef := hr; rfl
          rw [show Region.wanted o (yielded ops a.tmps) = false by simp [Region.wanted, hg, hyl]]
          exact ⟨.inl (fin undef w (Bl.refl _ _) (by rw [hav]; simp only [Rep])), dn_step hdn hi⟩
      · -- the first of those behind
        have hall' : ∀ j, j < i → listed.getD j false = true := fun j hj => by
          exact memT_listed hdn ops.size i j o ho hall (ok.tail i j o (by omega) hj ho)
        have hni : i = n := by
          rcases Nat.lt_or_ge n i with h | h
          · have := hall' n h
            rw [h7 n (Nat.le_refl _)] at this; cases this
          · omega
        subst hni
        have hst := full listed a w hA' hall'
        have hwl := hK a w hst
        exact stepB listed a w i hdn ⟨h1, i, Nat.le_refl _, ok.le, hall', h7, hwl⟩ hi
    · exact stepB listed a w i hdn hB hi
  · intro listed a w ⟨hJ, _⟩ hr
    have hsz : listed.size = ops.size := by rcases hJ with h | h <;> exact h.1
    have hall := all_listedB ok.down hsz hr
    rcases hJ with hA | ⟨_, k, h1, h2, h3, h4, h5⟩
    · have hn : n = ops.size := by
        rcases Nat.lt_or_ge n ops.size with h | h
        · have := hall n h
          rw [hA.2.2.2.2.2.2 n (Nat.le_refl _)] at this; cases this
        · have := ok.le; omega
      have hwl := hK a w (full listed a w hA fun j hj => hall j (by omega))
      have e : ops.toList.drop n = [] := by rw [hn]; exact List.drop_eq_nil_of_le (by simp)
      rw [e] at hwl
      exact hwl
    · have hk : k = ops.size := by
        rcases Nat.lt_or_ge k ops.size with h | h
        · have := hall k h
          rw [h4 k (Nat.le_refl _)] at this; cases this
        · omega
      have e : ops.toList.drop k = [] := by rw [hk]; exact List.drop_eq_nil_of_le (by simp)
      rw [e] at h5
      exact h5
  · unfold unl
    have := List.length_filter_le (fun i => !(Array.replicate ops.size false).getD i true) (List.range ops.size)
    simpa using this
  · refine ⟨.inl ⟨by simp, Bl.refl _ _, hs1.slots.defers, hs1.slots.size, fun t _ => hs1.slots.slot t, fun j p t hj hp hd hl => ?_, fun j hj => ?_⟩, dn_start ops ops.size⟩
    · have hlt : j < ops.size := (Array.getElem?_eq_some_iff.1 hp).1
      simp [hlt] at hl
    · rw [Array.getD_eq_getD_getElem?]
      by_cases hlt : j < ops.size
      · simp [hlt]
      · simp [hlt]
end

section
variable {P : Program} {C : Cx} {Q : Exit → AS → Prop} {s : AS}
theorem wDrawT {i : Nat} {l : List Oper} (n : Nat) (hm : P.follows .mixedOrders = true) (hok : drawOkB l.toArray n C.N = true) (k : WL (some (l.drop n)) P C l.toArray Q (l.take n) s) : W P C (.region i l.toArray true) Q s :=
  ⟨aw_drawB hm n hok (by simpa using k.run)⟩
end
end Go.Proofs.Ytmhkalalcmkpbaa

namespace Go.Proofs.Ytmhkalalcmkpbaa
open Go Go.RowKit
set_option linter.unusedVariables false
set_option linter.unusedSimpArgs false
section
variable {P : Program} {K : Prop} {N : Nat} {X : Nat → Prop} {h : List HObj} {f : Nat → AV} {o : Oper}
theorem p_bneC {t t' : TypeId} {x y : Operand} {a b : Bool} {r : Bool} (ho : o.op = .binOp .neq t x y t') (hx : evalT f x = .x (.bool a)) (hy : evalT f y = .x (.bool b)) (ht : P.underlying t = some .bool) (hr : (!(a == b)) = r) : PureOp P K N X h f o (.x (.bool r)) := pure_run fun ac w w0 env H => by
  rw [ho] at H
  have g1 := H x (by simp [Op.operands])
  have g2 := H y (by simp [Op.operands])
  rw [hx, rep_x] at g1
  rw [hy, rep_x] at g2
  refine ⟨.bool r, ?_, rep_x.2 rfl⟩
  subst hr
  have := run_neq_bool (P := P) w t a b ht
  simp [execOp, ho, g1, g2, eqGuard, this]
end

theorem leqC_t {a b : Int} (h : a ≤ b) : icmp .leq a b = some true := congrArg some (decide_eq_true h)
theorem leqC_f {a b : Int} (h : ¬ a ≤ b) : icmp .leq a b = some false := congrArg some (decide_eq_false h)
theorem geqC_t {a b : Int} (h : b ≤ a) : icmp .geq a b = some true := congrArg some (decide_eq_true h)
theorem geqC_f {a b : Int} (h : ¬ b ≤ a) : icmp .geq a b = some false := congrArg some (decide_eq_false h)
theorem few13_is {c : CtxT} {b : Bool} (hv : c.1.length = 16) (h : fewC c = b) : PFn Try.prog False 25 [ctA c] (bA b) := h ▸ few13_p c hv
theorem fewC_le {c : CtxT} (h : fewC c = true) : c.2.length ≤ 40 := by unfold fewC at h; rw [decide_eq_true_eq] at h; omega
theorem add_len (c : CtxT) (l : List (Int × Int)) : (addF c l).2.length ≤ c.2.length + l.length := by
  have := clean_len (c.1, c.2 ++ l)
  rw [List.length_append] at this
  exact this
theorem join_len (a b : CtxT) : (joinF a b).2.length ≤ a.2.length + b.2.length := by
  have h1 := add_len (vmax (cleanF a).1 (cleanF b).1, (cleanF a).2) (cleanF b).2
  have h2 := clean_len a
  have h3 := clean_len b
  have h4 : (joinF a b).2.length ≤ (cleanF a).2.length + (cleanF b).2.length := h1
  omega
def inL (l : List (Int × Int)) (d : Int × Int) : Bool := decide (d ∈ l)
theorem inL_take {l : List (Int × Int)} {i : Nat} {x d : Int × Int} (h : l[i]? = some x) : inL (l.take (i + 1)) d = (inL (l.take i) d || decide (x = d)) := by
  obtain ⟨hi, rfl⟩ := List.getElem?_eq_some_iff.1 h
  unfold inL
  rw [← List.take_append_getElem hi]
  by_cases h1 : d ∈ l.take i
  · rw [decide_eq_true h1, decide_eq_true (List.mem_append.2 (.inl h1))]; rfl
  · by_cases h2 : l[i] = d
    · rw [decide_eq_true h2, decide_eq_true (List.mem_append.2 (.inr (by simp [h2])))]; simp
    · rw [decide_eq_false h1, decide_eq_false h2, decide_eq_false]
      · rfl
      · intro g
        rcases List.mem_append.1 g with g | g
        · exact h1 g
        · simp at g; exact h2 g.symm
theorem in_cases {l : List (Int × Int)} {i : Nat} {x d : Int × Int} {bin : Bool} (h : l[i]? = some x) (hb : inL (l.take i) d = bin) : (bin = true ∧ inL (l.take (i + 1)) d = true) ∨ (bin = false ∧ x = d ∧ inL (l.take (i + 1)) d = true) ∨ (bin = false ∧ x ≠ d ∧ inL (l.take (i + 1)) d = false) := by
  rw [inL_take h, hb]
  cases bin with
  | true => exact .inl ⟨rfl, rfl⟩
  | false =>
    by_cases h2 : x = d
    · exact .inr (.inl ⟨rfl, h2, by rw [decide_eq_true h2]; rfl⟩)
    · exact .inr (.inr ⟨rfl, h2, by rw [decide_eq_false h2]; rfl⟩)
theorem grows_cases {c : CtxT} (hv : c.1.length = 16) {l : List (Int × Int)} {d : Int × Int} {bin : Bool} (hb : inL l d = bin) :
    (hasC c d = true ∧ hasC (addF c l) d = true) ∨ (hasC c d = false ∧ bin = false ∧ hasC (addF c l) d = false) ∨
    (hasC c d = false ∧ bin = true ∧ ¬ 0 ≤ d.1 ∧ hasC (addF c l) d = false) ∨ (hasC c d = false ∧ bin = true ∧ 0 ≤ d.1 ∧ ¬ d.1 < 16 ∧ hasC (addF c l) d = false) ∨
    (hasC c d = false ∧ bin = true ∧ 0 ≤ d.1 ∧ d.1 < 16 ∧ ¬ 1 ≤ d.2 ∧ hasC (addF c l) d = false) ∨ (hasC c d = false ∧ bin = true ∧ 0 ≤ d.1 ∧ d.1 < 16 ∧ 1 ≤ d.2 ∧ ¬ d.2 ≤ 1099511627776 ∧ hasC (addF c l) d = false) ∨
    (hasC c d = false ∧ bin = true ∧ 0 ≤ d.1 ∧ d.1 < 16 ∧ 1 ≤ d.2 ∧ d.2 ≤ 1099511627776 ∧ hasC (addF c l) d = true) := by
  have e : hasC (addF c l) d = (hasC c d || (decide (chk d = 0) && bin)) := by rw [has_add hv, ← hb]; rfl
  rw [e]
  cases hasC c d with
  | true => exact .inl ⟨rfl, rfl⟩
  | false =>
    cases bin with
    | false => exact .inr (.inl ⟨rfl, rfl, by simp⟩)
    | true =>
      have hc := chk_iff d
      by_cases h1 : 0 ≤ d.1
      · by_cases h2 : d.1 < 16
        · by_cases h3 : 1 ≤ d.2
          · by_cases h4 : d.2 ≤ 1099511627776
            · exact .inr (.inr (.inr (.inr (.inr (.inr ⟨rfl, rfl, h1, h2, h3, h4, by rw [decide_eq_true (hc.2 ⟨h1, h2, h3, h4⟩)]; rfl⟩)))))
            · exact .inr (.inr (.inr (.inr (.inr (.inl ⟨rfl, rfl, h1, h2, h3, h4, by rw [decide_eq_false fun g => h4 (hc.1 g).2.2.2]; rfl⟩)))))
          · exact .inr (.inr (.inr (.inr (.inl ⟨rfl, rfl, h1, h2, h3, by rw [decide_eq_false fun g => h3 (hc.1 g).2.2.1]; rfl⟩))))
        · exact .inr (.inr (.inr (.inl ⟨rfl, rfl, h1, h2, by rw [decide_eq_false fun g => h2 (hc.1 g).2.1]; rfl⟩)))
      · exact .inr (.inr (.inl ⟨rfl, rfl, h1, by rw [decide_eq_false fun g => h1 (hc.1 g).1]; rfl⟩))
theorem gtrC_t {a b : Int} (h : b < a) : icmp .gtr a b = some true := congrArg some (decide_eq_true h)
theorem gtrC_f {a b : Int} (h : ¬ b < a) : icmp .gtr a b = some false := congrArg some (decide_eq_false h)
theorem few1_cases (c : CtxT) (l : List (Int × Int)) : (fewC c = false ∧ (!fewC c || decide ((30 : Int) < (l.length : Nat))) = true) ∨ (fewC c = true ∧ (30 : Int) < (l.length : Nat) ∧ (!fewC c || decide ((30 : Int) < (l.length : Nat))) = true) ∨ (fewC c = true ∧ ¬ (30 : Int) < (l.length : Nat) ∧ (!fewC c || decide ((30 : Int) < (l.length : Nat))) = false) := by
  cases fewC c with
  | false => exact .inl ⟨rfl, rfl⟩
  | true =>
    by_cases h : (30 : Int) < (l.length : Nat)
    · exact .inr (.inl ⟨rfl, h, by rw [decide_eq_true h]; rfl⟩)
    · exact .inr (.inr ⟨rfl, h, by rw [decide_eq_false h]; rfl⟩)
theorem few3_cases (y z w : CtxT) : (fewC y = false ∧ (!(fewC y && (fewC z && fewC w))) = true) ∨ (fewC y = true ∧ fewC z = false ∧ (!(fewC y && (fewC z && fewC w))) = true) ∨ (fewC y = true ∧ fewC z = true ∧ fewC w = false ∧ (!(fewC y && (fewC z && fewC w))) = true) ∨ (fewC y = true ∧ fewC z = true ∧ fewC w = true ∧ (!(fewC y && (fewC z && fewC w))) = false) := by
  cases fewC y <;> cases fewC z <;> cases fewC w <;> simp
theorem join_cases {y z : CtxT} (hy : y.1.length = 16) (hz : z.1.length = 16) (d : Int × Int) : (hasC y d = true ∧ hasC (joinF y z) d = true) ∨ (hasC y d = false ∧ hasC z d = true ∧ hasC (joinF y z) d = true) ∨ (hasC y d = false ∧ hasC z d = false ∧ hasC (joinF y z) d = false) := by
  rw [has_join hy hz]
  cases hasC y d <;> cases hasC z d <;> simp

set_option maxHeartbeats 1000000 in
set_option maxRecDepth 100000 in
theorem cgrows_w (c : CtxT) (l : List (Int × Int)) (d : Int × Int) (hv : c.1.length = 16) : PFn Try.prog False 8 [ctA c, slD l, dA d] (bA true) := by
  refine pfn Try.func8 rfl (by kernel_rfl) 70 rfl _ rfl (Nat.le_of_ble_eq_true rfl) (fun X w0 => ?_)
  refine wSeq ?_
  refine wReg ?_
  refine sBox rfl rfl rfl rfl rfl (fun g3 => ?_)
  refine sBox rfl rfl rfl rfl rfl (fun g5 => ?_)
  refine sP rfl rfl rfl (pA rfl rfl) ?_
  refine lNil ?_
  refine wSeq ?_
  refine wCut (fun L h => ∃ b : Bool, b = (!fewC c || decide ((30 : Int) < (l.length : Nat))) ∧ L = [(1, slD l), (3, nP g3), (5, nP g5), (17, bA b)] ∧ h = [.cells g3 55 (encCt c), .cells g5 23 (encA d)]) ?_ ?_
  · rcases few1_cases c l with ⟨e1, hbv⟩ | ⟨e1, e2, hbv⟩ | ⟨e1, e2, hbv⟩
    · refine wReg ?_
      refine sP rfl rfl rfl (pLdW 0 rfl rfl rfl ty55 (ctx_len hv)) ?_
      refine sP rfl rfl rfl (p_call rfl (few13_is hv e1) ⟨Sub.refl, trivial⟩) ?_
      refine sP rfl rfl rfl (p_not rfl rfl) ?_
      refine sP rfl rfl rfl (pM rfl rfl) ?_
      refine sUx rfl rfl rfl (by decide) rfl rfl ?_
      refine sUx rfl rfl rfl (by decide) rfl rfl ?_
      refine sUx rfl rfl rfl (by decide) rfl rfl ?_
      refine sP rfl rfl rfl (p_pick rfl rfl rfl) ?_
      refine lNil ?_
      exact ⟨_, [.cells g3 55 (encCt c), .cells g5 23 (encA d)], _, ⟨_, (by exact hbv.symm), rfl, rfl⟩, ⟨rfl, rfl, rfl, rfl, trivial⟩, rfl⟩
    · refine wReg ?_
      refine sP rfl rfl rfl (pLdW 0 rfl rfl rfl ty55 (ctx_len hv)) ?_
      refine sP rfl rfl rfl (p_call rfl (few13_is hv e1) ⟨Sub.refl, trivial⟩) ?_
      refine sP rfl rfl rfl (p_not rfl rfl) ?_
      refine sP rfl rfl rfl (pM rfl rfl) ?_
      refine sG rfl rfl rfl rfl rfl (pMs rfl rfl) ?_
      refine sG rfl rfl rfl rfl rfl (p_len_sl rfl rfl Try.underlying27) ?_
      refine sG rfl rfl rfl rfl rfl (p_icmp rfl rfl rfl (gtrC_t e2)) ?_
      refine sP rfl rfl rfl (p_pick rfl rfl rfl) ?_
      refine lNil ?_
      exact ⟨_, [.cells g3 55 (encCt c), .cells g5 23 (encA d)], _, ⟨_, (by exact hbv.symm), rfl, rfl⟩, ⟨rfl, rfl, rfl, rfl, trivial⟩, rfl⟩
    · refine wReg ?_
      refine sP rfl rfl rfl (pLdW 0 rfl rfl rfl ty55 (ctx_len hv)) ?_
      refine sP rfl rfl rfl (p_call rfl (few13_is hv e1) ⟨Sub.refl, trivial⟩) ?_
      refine sP rfl rfl rfl (p_not rfl rfl) ?_
      refine sP rfl rfl rfl (pM rfl rfl) ?_
      refine sG rfl rfl rfl rfl rfl (pMs rfl rfl) ?_
      refine sG rfl rfl rfl rfl rfl (p_len_sl rfl rfl Try.underlying27) ?_
      refine sG rfl rfl rfl rfl rfl (p_icmp rfl rfl rfl (gtrC_f e2)) ?_
      refine sP rfl rfl rfl (p_pick rfl rfl rfl) ?_
      refine lNil ?_
      exact ⟨_, [.cells g3 55 (encCt c), .cells g5 23 (encA d)], _, ⟨_, (by exact hbv.symm), rfl, rfl⟩, ⟨rfl, rfl, rfl, rfl, trivial⟩, rfl⟩
  · rintro L h ⟨b, hb, rfl, rfl⟩
    refine wCond rfl (fun hc1 => ?_) (fun hc1 => ?_)
    · refine wSeq ?_
      refine wReg ?_
      refine sP rfl rfl rfl (p_call rfl (awake13_p) trivial) ?_
      refine sP rfl rfl rfl (pA rfl rfl) ?_
      refine lNil ?_
      refine wRet ?_
      exact rgs1 (rg_tmp (gives_sub (Sub.of_eq (rfl))))
    · have hb3 := hb.symm.trans hc1
      rw [Bool.or_eq_false_iff, decide_eq_false_iff_not, Bool.not_eq_false'] at hb3
      have hf := fewC_le hb3.1
      have hlen := hb3.2
      have hq := (clean_add (c := c) hv l).len
      have hql := add_len c l
      refine wSkip ?_
      refine wSeq ?_
      refine wReg ?_
      refine sP rfl rfl rfl (pLdW 0 rfl rfl rfl ty55 (ctx_len hv)) ?_
      refine sP rfl rfl rfl (pMs rfl rfl) ?_
      refine sP rfl rfl rfl (p_call rfl (cadd_p c l hv (by omega) (by omega)) ⟨Sub.refl, Sub.refl, trivial⟩) ?_
      refine sAlloc rfl rfl rfl rfl ze55 (fun g7 => ?_)
      refine sStore 2 rfl rfl rfl rfl rfl ty55 rfl (ctx_ones' hq) (ctx_len' hq) (Nat.le_of_ble_eq_true rfl) ?_
      refine lNil ?_
      refine wKeep [(1, slD l), (3, nP g3), (5, nP g5), (7, nP g7)] [.cells g3 55 (encCt c), .cells g5 23 (encA d), .cells g7 55 (encCt (addF c l))] [] ⟨rfl, rfl, rfl, rfl, trivial⟩ (by
      have e1 : spl (iL zeroV ++ [.x (.slice none 0 0)]) 0 (encCt (addF c l)) = encCt (addF c l) := ctx_spl rfl (ctx_len' hq)
      show [_, _, HObj.cells g7 _ (spl (iL zeroV ++ [.x (.slice none 0 0)]) 0 (encCt (addF c l)))] = _
      rw [e1]
      rfl) ?_
      refine wSeq ?_
      refine wReg ?_
      refine sP rfl rfl rfl (pA rfl rfl) ?_
      refine lNil ?_
      refine wSeq ?_
      refine wSeq ?_
      refine wReg ?_
      refine sP rfl rfl rfl (pA rfl rfl) ?_
      refine lNil ?_
      refine wBlock ?_
      refine wLoop (fun mm L h => ∃ i, mm = l.length - i ∧ i ≤ l.length ∧ L = [(1, slD l), (3, nP g3), (5, nP g5), (7, nP g7), (8, bA (inL (l.take i) d)), (9, iA (i : Nat))] ∧ h = [.cells g3 55 (encCt c), .cells g5 23 (encA d), .cells g7 55 (encCt (addF c l))]) ⟨_, _, _, _, ⟨0, rfl, Nat.zero_le _, rfl, rfl⟩, ⟨rfl, rfl, rfl, rfl, rfl, rfl, trivial⟩, rfl⟩ ?_
      rintro mm L h ⟨i, rfl, hi, rfl, rfl⟩
      refine wSeq ?_
      refine wSeq ?_
      refine wReg ?_
      refine sP rfl rfl rfl (pM rfl rfl) ?_
      refine sP rfl rfl rfl (pMs rfl rfl) ?_
      refine sP rfl rfl rfl (p_len_sl rfl rfl Try.underlying27) ?_
      refine sP rfl rfl rfl (p_icmp rfl rfl rfl rfl) ?_
      refine lNil ?_
      refine wCond rfl (fun hc2 => ?_) (fun hc2 => ?_)
      · have hlt : i < l.length := by simpa using hc2
        obtain ⟨x, hx⟩ := getL hlt
        refine wSkip ?_
        refine wCut (fun L h => ∃ b : Bool, b = (inL (l.take (i + 1)) d) ∧ L = [(1, slD l), (3, nP g3), (5, nP g5), (7, nP g7), (9, iA (i : Nat)), (8, bA b)] ∧ h = [.cells g3 55 (encCt c), .cells g5 23 (encA d), .cells g7 55 (encCt (addF c l))]) ?_ ?_
        · generalize hbin : inL (l.take i) d = bin; rcases in_cases hx hbin with ⟨rfl, hbv⟩ | ⟨rfl, e2, hbv⟩ | ⟨rfl, e2, hbv⟩
          · refine wBlock ?_; refine wDrawT 9 (by kernel_rfl) (by kernel_rfl) ?_
            refine sP rfl rfl rfl (pM rfl rfl) ?_
            refine sP rfl rfl rfl (pM rfl rfl) ?_
            refine sUx rfl rfl rfl (by decide) rfl rfl ?_
            refine sUx rfl rfl rfl (by decide) rfl rfl ?_
            refine sUx rfl rfl rfl (by decide) rfl rfl ?_
            refine sUx rfl rfl rfl (by decide) rfl rfl ?_
            refine sUx rfl rfl rfl (by decide) rfl rfl ?_
            refine sUx rfl rfl rfl (by decide) rfl rfl ?_
            refine sP rfl rfl rfl (p_pick rfl rfl rfl) ?_
            refine lTail ?_
            refine sP rfl rfl rfl (pA rfl rfl) ?_
            refine lNil ?_
            exact ⟨_, [.cells g3 55 (encCt c), .cells g5 23 (encA d), .cells g7 55 (encCt (addF c l))], _, ⟨_, (by exact hbv.symm), rfl, rfl⟩, ⟨rfl, rfl, rfl, rfl, rfl, rfl, trivial⟩, rfl⟩
          · refine wBlock ?_; refine wDrawT 9 (by kernel_rfl) (by kernel_rfl) ?_
            refine sP rfl rfl rfl (pM rfl rfl) ?_
            refine sP rfl rfl rfl (pM rfl rfl) ?_
            refine sG rfl rfl rfl rfl rfl (pMs rfl rfl) ?_
            refine sG rfl rfl rfl rfl rfl (pM rfl rfl) ?_
            refine sG rfl rfl rfl rfl rfl (pIdx i rfl rfl Try.underlying27 ty23 (by decide) rfl (fun _ => rfl) rfl rfl hx) ?_
            refine sG rfl rfl rfl rfl rfl (pLdE rfl rfl ty23 rfl) ?_
            refine sG rfl rfl rfl rfl rfl (pLdW 1 rfl rfl rfl ty23 rfl) ?_
            refine sG rfl rfl rfl rfl rfl (p_eqs (r := true) rfl rfl rfl rfl rfl guardD (fun w => eqD_t (d := 9998) (a := x) (b := d) e2)) ?_
            refine sP rfl rfl rfl (p_pick rfl rfl rfl) ?_
            refine lTail ?_
            refine sP rfl rfl rfl (pA rfl rfl) ?_
            refine lNil ?_
            exact ⟨_, [.cells g3 55 (encCt c), .cells g5 23 (encA d), .cells g7 55 (encCt (addF c l))], _, ⟨_, (by exact hbv.symm), rfl, rfl⟩, ⟨rfl, rfl, rfl, rfl, rfl, rfl, trivial⟩, rfl⟩
          · refine wBlock ?_; refine wDrawT 9 (by kernel_rfl) (by kernel_rfl) ?_
            refine sP rfl rfl rfl (pM rfl rfl) ?_
            refine sP rfl rfl rfl (pM rfl rfl) ?_
            refine sG rfl rfl rfl rfl rfl (pMs rfl rfl) ?_
            refine sG rfl rfl rfl rfl rfl (pM rfl rfl) ?_
            refine sG rfl rfl rfl rfl rfl (pIdx i rfl rfl Try.underlying27 ty23 (by decide) rfl (fun _ => rfl) rfl rfl hx) ?_
            refine sG rfl rfl rfl rfl rfl (pLdE rfl rfl ty23 rfl) ?_
            refine sG rfl rfl rfl rfl rfl (pLdW 1 rfl rfl rfl ty23 rfl) ?_
            refine sG rfl rfl rfl rfl rfl (p_eqs (r := false) rfl rfl rfl rfl rfl guardD (fun w => eqD_f (d := 9998) (a := x) (b := d) e2)) ?_
            refine sP rfl rfl rfl (p_pick rfl rfl rfl) ?_
            refine lTail ?_
            refine sP rfl rfl rfl (pA rfl rfl) ?_
            refine lNil ?_
            exact ⟨_, [.cells g3 55 (encCt c), .cells g5 23 (encA d), .cells g7 55 (encCt (addF c l))], _, ⟨_, (by exact hbv.symm), rfl, rfl⟩, ⟨rfl, rfl, rfl, rfl, rfl, rfl, trivial⟩, rfl⟩
        · rintro L h ⟨b1, hb1, rfl, rfl⟩
          refine wReg ?_
          refine sP rfl rfl rfl (pM rfl rfl) ?_
          refine sP rfl rfl rfl (p_iar rfl rfl rfl rfl) ?_
          refine sP rfl rfl rfl (pA rfl rfl) ?_
          refine lNil ?_
          refine ⟨_, _, [.cells g3 55 (encCt c), .cells g5 23 (encA d), .cells g7 55 (encCt (addF c l))], [], ?_, ⟨i + 1, rfl, hlt, rfl, rfl⟩, ⟨rfl, rfl, rfl, rfl, avB hb1, avI (wrapI (by omega) (by omega)), trivial⟩, rfl⟩
          omega
      · have hge : i = l.length := by
          have h : ¬ i < l.length := by simpa using hc2
          omega
        subst hge
        refine wExit ?_
        refine wCut (fun L h => ∃ b : Bool, b = (true) ∧ L = [(3, nP g3), (6, bA b)] ∧ h = [.cells g3 55 (encCt c), .cells g5 23 (encA d), .cells g7 55 (encCt (addF c l))]) ?_ ?_
        · rw [List.take_length]; generalize hbin : inL l d = bin; rcases grows_cases hv hbin with ⟨e1, hbv⟩ | ⟨e1, rfl, hbv⟩ | ⟨e1, rfl, e3, hbv⟩ | ⟨e1, rfl, e3, e4, hbv⟩ | ⟨e1, rfl, e3, e4, e5, hbv⟩ | ⟨e1, rfl, e3, e4, e5, e6, hbv⟩ | ⟨e1, rfl, e3, e4, e5, e6, hbv⟩
          · refine wDraw 34 (by kernel_rfl) (by kernel_rfl) ?_
            refine sP rfl rfl rfl (pLdW 2 rfl rfl rfl ty55 (ctx_len hq)) ?_
            refine sP rfl rfl rfl (pLdW 1 rfl rfl rfl ty23 rfl) ?_
            refine sP rfl rfl rfl (p_call rfl (chas_is hq (by omega) hbv) ⟨Sub.refl, Sub.refl, trivial⟩) ?_
            refine sP rfl rfl rfl (pLdW 0 rfl rfl rfl ty55 (ctx_len hv)) ?_
            refine sP rfl rfl rfl (pLdW 1 rfl rfl rfl ty23 rfl) ?_
            refine sP rfl rfl rfl (p_call rfl (chas_is hv (by omega) e1) ⟨Sub.refl, Sub.refl, trivial⟩) ?_
            refine sP rfl rfl rfl (pM rfl rfl) ?_
            refine sUx rfl rfl rfl (by decide) rfl rfl ?_
            refine sUx rfl rfl rfl (by decide) rfl rfl ?_
            refine sNx rfl rfl rfl rfl rfl ?_
            refine sNx rfl rfl rfl rfl rfl ?_
            refine sNx rfl rfl rfl rfl rfl ?_
            refine sUx rfl rfl rfl (by decide) rfl rfl ?_
            refine sUx rfl rfl rfl (by decide) rfl rfl ?_
            refine sNx rfl rfl rfl rfl rfl ?_
            refine sNx rfl rfl rfl rfl rfl ?_
            refine sNx rfl rfl rfl rfl rfl ?_
            refine sUx rfl rfl rfl (by decide) rfl rfl ?_
            refine sUx rfl rfl rfl (by decide) rfl rfl ?_
            refine sNx rfl rfl rfl rfl rfl ?_
            refine sNx rfl rfl rfl rfl rfl ?_
            refine sNx rfl rfl rfl rfl rfl ?_
            refine sUx rfl rfl rfl (by decide) rfl rfl ?_
            refine sUx rfl rfl rfl (by decide) rfl rfl ?_
            refine sNx rfl rfl rfl rfl rfl ?_
            refine sNx rfl rfl rfl rfl rfl ?_
            refine sNx rfl rfl rfl rfl rfl ?_
            refine sUx rfl rfl rfl (by decide) rfl rfl ?_
            refine sP rfl rfl rfl (p_pick rfl rfl rfl) ?_
            refine sP rfl rfl rfl (p_beq (r := true) rfl rfl rfl Try.underlying4 rfl) ?_
            refine sP rfl rfl rfl (pM rfl rfl) ?_
            refine sG rfl rfl rfl rfl rfl (p_call rfl (awake13_p) trivial) ?_
            refine sP rfl rfl rfl (p_pick rfl rfl rfl) ?_
            refine sP rfl rfl rfl (pA rfl rfl) ?_
            refine lTail ?_
            refine lNil ?_
            exact ⟨_, [.cells g3 55 (encCt c), .cells g5 23 (encA d), .cells g7 55 (encCt (addF c l))], _, ⟨_, (by exact rfl), rfl, rfl⟩, ⟨rfl, rfl, trivial⟩, rfl⟩
          · refine wDraw 34 (by kernel_rfl) (by kernel_rfl) ?_
            refine sP rfl rfl rfl (pLdW 2 rfl rfl rfl ty55 (ctx_len hq)) ?_
            refine sP rfl rfl rfl (pLdW 1 rfl rfl rfl ty23 rfl) ?_
            refine sP rfl rfl rfl (p_call rfl (chas_is hq (by omega) hbv) ⟨Sub.refl, Sub.refl, trivial⟩) ?_
            refine sP rfl rfl rfl (pLdW 0 rfl rfl rfl ty55 (ctx_len hv)) ?_
            refine sP rfl rfl rfl (pLdW 1 rfl rfl rfl ty23 rfl) ?_
            refine sP rfl rfl rfl (p_call rfl (chas_is hv (by omega) e1) ⟨Sub.refl, Sub.refl, trivial⟩) ?_
            refine sP rfl rfl rfl (pM rfl rfl) ?_
            refine sG rfl rfl rfl rfl rfl (pM rfl rfl) ?_
            refine sG rfl rfl rfl rfl rfl (pM rfl rfl) ?_
            refine sUx rfl rfl rfl (by decide) rfl rfl ?_
            refine sUx rfl rfl rfl (by decide) rfl rfl ?_
            refine sUx rfl rfl rfl (by decide) rfl rfl ?_
            refine sG rfl rfl rfl rfl rfl (p_pick rfl rfl rfl) ?_
            refine sG rfl rfl rfl rfl rfl (pM rfl rfl) ?_
            refine sUx rfl rfl rfl (by decide) rfl rfl ?_
            refine sUx rfl rfl rfl (by decide) rfl rfl ?_
            refine sUx rfl rfl rfl (by decide) rfl rfl ?_
            refine sG rfl rfl rfl rfl rfl (p_pick rfl rfl rfl) ?_
            refine sG rfl rfl rfl rfl rfl (pM rfl rfl) ?_
            refine sUx rfl rfl rfl (by decide) rfl rfl ?_
            refine sUx rfl rfl rfl (by decide) rfl rfl ?_
            refine sUx rfl rfl rfl (by decide) rfl rfl ?_
            refine sG rfl rfl rfl rfl rfl (p_pick rfl rfl rfl) ?_
            refine sG rfl rfl rfl rfl rfl (pM rfl rfl) ?_
            refine sUx rfl rfl rfl (by decide) rfl rfl ?_
            refine sUx rfl rfl rfl (by decide) rfl rfl ?_
            refine sUx rfl rfl rfl (by decide) rfl rfl ?_
            refine sG rfl rfl rfl rfl rfl (p_pick rfl rfl rfl) ?_
            refine sP rfl rfl rfl (p_pick rfl rfl rfl) ?_
            refine sP rfl rfl rfl (p_beq (r := true) rfl rfl rfl Try.underlying4 rfl) ?_
            refine sP rfl rfl rfl (pM rfl rfl) ?_
            refine sG rfl rfl rfl rfl rfl (p_call rfl (awake13_p) trivial) ?_
            refine sP rfl rfl rfl (p_pick rfl rfl rfl) ?_
            refine sP rfl rfl rfl (pA rfl rfl) ?_
            refine lTail ?_
            refine lNil ?_
            exact ⟨_, [.cells g3 55 (encCt c), .cells g5 23 (encA d), .cells g7 55 (encCt (addF c l))], _, ⟨_, (by exact rfl), rfl, rfl⟩, ⟨rfl, rfl, trivial⟩, rfl⟩
          · refine wDraw 34 (by kernel_rfl) (by kernel_rfl) ?_
            refine sP rfl rfl rfl (pLdW 2 rfl rfl rfl ty55 (ctx_len hq)) ?_
            refine sP rfl rfl rfl (pLdW 1 rfl rfl rfl ty23 rfl) ?_
            refine sP rfl rfl rfl (p_call rfl (chas_is hq (by omega) hbv) ⟨Sub.refl, Sub.refl, trivial⟩) ?_
            refine sP rfl rfl rfl (pLdW 0 rfl rfl rfl ty55 (ctx_len hv)) ?_
            refine sP rfl rfl rfl (pLdW 1 rfl rfl rfl ty23 rfl) ?_
            refine sP rfl rfl rfl (p_call rfl (chas_is hv (by omega) e1) ⟨Sub.refl, Sub.refl, trivial⟩) ?_
            refine sP rfl rfl rfl (pM rfl rfl) ?_
            refine sG rfl rfl rfl rfl rfl (pM rfl rfl) ?_
            refine sG rfl rfl rfl rfl rfl (pM rfl rfl) ?_
            refine sG rfl rfl rfl rfl rfl (p_fieldAddr_own rfl rfl fl23_0 ty3 (by decide)) ?_
            refine sG rfl rfl rfl rfl rfl (pLdO1 1 rfl rfl rfl ty3 rfl) ?_
            refine sG rfl rfl rfl rfl rfl (p_icmp rfl rfl rfl (geqC_f e3)) ?_
            refine sG rfl rfl rfl rfl rfl (p_pick rfl rfl rfl) ?_
            refine sG rfl rfl rfl rfl rfl (pM rfl rfl) ?_
            refine sUx rfl rfl rfl (by decide) rfl rfl ?_
            refine sUx rfl rfl rfl (by decide) rfl rfl ?_
            refine sUx rfl rfl rfl (by decide) rfl rfl ?_
            refine sG rfl rfl rfl rfl rfl (p_pick rfl rfl rfl) ?_
            refine sG rfl rfl rfl rfl rfl (pM rfl rfl) ?_
            refine sUx rfl rfl rfl (by decide) rfl rfl ?_
            refine sUx rfl rfl rfl (by decide) rfl rfl ?_
            refine sUx rfl rfl rfl (by decide) rfl rfl ?_
            refine sG rfl rfl rfl rfl rfl (p_pick rfl rfl rfl) ?_
            refine sG rfl rfl rfl rfl rfl (pM rfl rfl) ?_
            refine sUx rfl rfl rfl (by decide) rfl rfl ?_
            refine sUx rfl rfl rfl (by decide) rfl rfl ?_
            refine sUx rfl rfl rfl (by decide) rfl rfl ?_
            refine sG rfl rfl rfl rfl rfl (p_pick rfl rfl rfl) ?_
            refine sP rfl rfl rfl (p_pick rfl rfl rfl) ?_
            refine sP rfl rfl rfl (p_beq (r := true) rfl rfl rfl Try.underlying4 rfl) ?_
            refine sP rfl rfl rfl (pM rfl rfl) ?_
            refine sG rfl rfl rfl rfl rfl (p_call rfl (awake13_p) trivial) ?_
            refine sP rfl rfl rfl (p_pick rfl rfl rfl) ?_
            refine sP rfl rfl rfl (pA rfl rfl) ?_
            refine lTail ?_
            refine lNil ?_
            exact ⟨_, [.cells g3 55 (encCt c), .cells g5 23 (encA d), .cells g7 55 (encCt (addF c l))], _, ⟨_, (by exact rfl), rfl, rfl⟩, ⟨rfl, rfl, trivial⟩, rfl⟩
          · refine wDraw 34 (by kernel_rfl) (by kernel_rfl) ?_
            refine sP rfl rfl rfl (pLdW 2 rfl rfl rfl ty55 (ctx_len hq)) ?_
            refine sP rfl rfl rfl (pLdW 1 rfl rfl rfl ty23 rfl) ?_
            refine sP rfl rfl rfl (p_call rfl (chas_is hq (by omega) hbv) ⟨Sub.refl, Sub.refl, trivial⟩) ?_
            refine sP rfl rfl rfl (pLdW 0 rfl rfl rfl ty55 (ctx_len hv)) ?_
            refine sP rfl rfl rfl (pLdW 1 rfl rfl rfl ty23 rfl) ?_
            refine sP rfl rfl rfl (p_call rfl (chas_is hv (by omega) e1) ⟨Sub.refl, Sub.refl, trivial⟩) ?_
            refine sP rfl rfl rfl (pM rfl rfl) ?_
            refine sG rfl rfl rfl rfl rfl (pM rfl rfl) ?_
            refine sG rfl rfl rfl rfl rfl (pM rfl rfl) ?_
            refine sG rfl rfl rfl rfl rfl (p_fieldAddr_own rfl rfl fl23_0 ty3 (by decide)) ?_
            refine sG rfl rfl rfl rfl rfl (pLdO1 1 rfl rfl rfl ty3 rfl) ?_
            refine sG rfl rfl rfl rfl rfl (p_icmp rfl rfl rfl (geqC_t e3)) ?_
            refine sG rfl rfl rfl rfl rfl (p_pick rfl rfl rfl) ?_
            refine sG rfl rfl rfl rfl rfl (pM rfl rfl) ?_
            refine sG rfl rfl rfl rfl rfl (p_fieldAddr_own rfl rfl fl23_0 ty3 (by decide)) ?_
            refine sG rfl rfl rfl rfl rfl (pLdO1 1 rfl rfl rfl ty3 rfl) ?_
            refine sG rfl rfl rfl rfl rfl (p_icmp rfl rfl rfl (lssq_f e4)) ?_
            refine sG rfl rfl rfl rfl rfl (p_pick rfl rfl rfl) ?_
            refine sG rfl rfl rfl rfl rfl (pM rfl rfl) ?_
            refine sUx rfl rfl rfl (by decide) rfl rfl ?_
            refine sUx rfl rfl rfl (by decide) rfl rfl ?_
            refine sUx rfl rfl rfl (by decide) rfl rfl ?_
            refine sG rfl rfl rfl rfl rfl (p_pick rfl rfl rfl) ?_
            refine sG rfl rfl rfl rfl rfl (pM rfl rfl) ?_
            refine sUx rfl rfl rfl (by decide) rfl rfl ?_
            refine sUx rfl rfl rfl (by decide) rfl rfl ?_
            refine sUx rfl rfl rfl (by decide) rfl rfl ?_
            refine sG rfl rfl rfl rfl rfl (p_pick rfl rfl rfl) ?_
            refine sP rfl rfl rfl (p_pick rfl rfl rfl) ?_
            refine sP rfl rfl rfl (p_beq (r := true) rfl rfl rfl Try.underlying4 rfl) ?_
            refine sP rfl rfl rfl (pM rfl rfl) ?_
            refine sG rfl rfl rfl rfl rfl (p_call rfl (awake13_p) trivial) ?_
            refine sP rfl rfl rfl (p_pick rfl rfl rfl) ?_
            refine sP rfl rfl rfl (pA rfl rfl) ?_
            refine lTail ?_
            refine lNil ?_
            exact ⟨_, [.cells g3 55 (encCt c), .cells g5 23 (encA d), .cells g7 55 (encCt (addF c l))], _, ⟨_, (by exact rfl), rfl, rfl⟩, ⟨rfl, rfl, trivial⟩, rfl⟩
          · refine wDraw 34 (by kernel_rfl) (by kernel_rfl) ?_
            refine sP rfl rfl rfl (pLdW 2 rfl rfl rfl ty55 (ctx_len hq)) ?_
            refine sP rfl rfl rfl (pLdW 1 rfl rfl rfl ty23 rfl) ?_
            refine sP rfl rfl rfl (p_call rfl (chas_is hq (by omega) hbv) ⟨Sub.refl, Sub.refl, trivial⟩) ?_
            refine sP rfl rfl rfl (pLdW 0 rfl rfl rfl ty55 (ctx_len hv)) ?_
            refine sP rfl rfl rfl (pLdW 1 rfl rfl rfl ty23 rfl) ?_
            refine sP rfl rfl rfl (p_call rfl (chas_is hv (by omega) e1) ⟨Sub.refl, Sub.refl, trivial⟩) ?_
            refine sP rfl rfl rfl (pM rfl rfl) ?_
            refine sG rfl rfl rfl rfl rfl (pM rfl rfl) ?_
            refine sG rfl rfl rfl rfl rfl (pM rfl rfl) ?_
            refine sG rfl rfl rfl rfl rfl (p_fieldAddr_own rfl rfl fl23_0 ty3 (by decide)) ?_
            refine sG rfl rfl rfl rfl rfl (pLdO1 1 rfl rfl rfl ty3 rfl) ?_
            refine sG rfl rfl rfl rfl rfl (p_icmp rfl rfl rfl (geqC_t e3)) ?_
            refine sG rfl rfl rfl rfl rfl (p_pick rfl rfl rfl) ?_
            refine sG rfl rfl rfl rfl rfl (pM rfl rfl) ?_
            refine sG rfl rfl rfl rfl rfl (p_fieldAddr_own rfl rfl fl23_0 ty3 (by decide)) ?_
            refine sG rfl rfl rfl rfl rfl (pLdO1 1 rfl rfl rfl ty3 rfl) ?_
            refine sG rfl rfl rfl rfl rfl (p_icmp rfl rfl rfl (lssq_t e4)) ?_
            refine sG rfl rfl rfl rfl rfl (p_pick rfl rfl rfl) ?_
            refine sG rfl rfl rfl rfl rfl (pM rfl rfl) ?_
            refine sG rfl rfl rfl rfl rfl (p_fieldAddr_own rfl rfl fl23_1 ty3 (by decide)) ?_
            refine sG rfl rfl rfl rfl rfl (pLdO1 1 rfl rfl rfl ty3 rfl) ?_
            refine sG rfl rfl rfl rfl rfl (p_icmp rfl rfl rfl (geqC_f e5)) ?_
            refine sG rfl rfl rfl rfl rfl (p_pick rfl rfl rfl) ?_
            refine sG rfl rfl rfl rfl rfl (pM rfl rfl) ?_
            refine sUx rfl rfl rfl (by decide) rfl rfl ?_
            refine sUx rfl rfl rfl (by decide) rfl rfl ?_
            refine sUx rfl rfl rfl (by decide) rfl rfl ?_
            refine sG rfl rfl rfl rfl rfl (p_pick rfl rfl rfl) ?_
            refine sP rfl rfl rfl (p_pick rfl rfl rfl) ?_
            refine sP rfl rfl rfl (p_beq (r := true) rfl rfl rfl Try.underlying4 rfl) ?_
            refine sP rfl rfl rfl (pM rfl rfl) ?_
            refine sG rfl rfl rfl rfl rfl (p_call rfl (awake13_p) trivial) ?_
            refine sP rfl rfl rfl (p_pick rfl rfl rfl) ?_
            refine sP rfl rfl rfl (pA rfl rfl) ?_
            refine lTail ?_
            refine lNil ?_
            exact ⟨_, [.cells g3 55 (encCt c), .cells g5 23 (encA d), .cells g7 55 (encCt (addF c l))], _, ⟨_, (by exact rfl), rfl, rfl⟩, ⟨rfl, rfl, trivial⟩, rfl⟩
          · refine wDraw 34 (by kernel_rfl) (by kernel_rfl) ?_
            refine sP rfl rfl rfl (pLdW 2 rfl rfl rfl ty55 (ctx_len hq)) ?_
            refine sP rfl rfl rfl (pLdW 1 rfl rfl rfl ty23 rfl) ?_
            refine sP rfl rfl rfl (p_call rfl (chas_is hq (by omega) hbv) ⟨Sub.refl, Sub.refl, trivial⟩) ?_
            refine sP rfl rfl rfl (pLdW 0 rfl rfl rfl ty55 (ctx_len hv)) ?_
            refine sP rfl rfl rfl (pLdW 1 rfl rfl rfl ty23 rfl) ?_
            refine sP rfl rfl rfl (p_call rfl (chas_is hv (by omega) e1) ⟨Sub.refl, Sub.refl, trivial⟩) ?_
            refine sP rfl rfl rfl (pM rfl rfl) ?_
            refine sG rfl rfl rfl rfl rfl (pM rfl rfl) ?_
            refine sG rfl rfl rfl rfl rfl (pM rfl rfl) ?_
            refine sG rfl rfl rfl rfl rfl (p_fieldAddr_own rfl rfl fl23_0 ty3 (by decide)) ?_
            refine sG rfl rfl rfl rfl rfl (pLdO1 1 rfl rfl rfl ty3 rfl) ?_
            refine sG rfl rfl rfl rfl rfl (p_icmp rfl rfl rfl (geqC_t e3)) ?_
            refine sG rfl rfl rfl rfl rfl (p_pick rfl rfl rfl) ?_
            refine sG rfl rfl rfl rfl rfl (pM rfl rfl) ?_
            refine sG rfl rfl rfl rfl rfl (p_fieldAddr_own rfl rfl fl23_0 ty3 (by decide)) ?_
            refine sG rfl rfl rfl rfl rfl (pLdO1 1 rfl rfl rfl ty3 rfl) ?_
            refine sG rfl rfl rfl rfl rfl (p_icmp rfl rfl rfl (lssq_t e4)) ?_
            refine sG rfl rfl rfl rfl rfl (p_pick rfl rfl rfl) ?_
            refine sG rfl rfl rfl rfl rfl (pM rfl rfl) ?_
            refine sG rfl rfl rfl rfl rfl (p_fieldAddr_own rfl rfl fl23_1 ty3 (by decide)) ?_
            refine sG rfl rfl rfl rfl rfl (pLdO1 1 rfl rfl rfl ty3 rfl) ?_
            refine sG rfl rfl rfl rfl rfl (p_icmp rfl rfl rfl (geqC_t e5)) ?_
            refine sG rfl rfl rfl rfl rfl (p_pick rfl rfl rfl) ?_
            refine sG rfl rfl rfl rfl rfl (pM rfl rfl) ?_
            refine sG rfl rfl rfl rfl rfl (p_fieldAddr_own rfl rfl fl23_1 ty3 (by decide)) ?_
            refine sG rfl rfl rfl rfl rfl (pLdO1 1 rfl rfl rfl ty3 rfl) ?_
            refine sG rfl rfl rfl rfl rfl (p_icmp rfl rfl rfl (leqC_f e6)) ?_
            refine sG rfl rfl rfl rfl rfl (p_pick rfl rfl rfl) ?_
            refine sP rfl rfl rfl (p_pick rfl rfl rfl) ?_
            refine sP rfl rfl rfl (p_beq (r := true) rfl rfl rfl Try.underlying4 rfl) ?_
            refine sP rfl rfl rfl (pM rfl rfl) ?_
            refine sG rfl rfl rfl rfl rfl (p_call rfl (awake13_p) trivial) ?_
            refine sP rfl rfl rfl (p_pick rfl rfl rfl) ?_
            refine sP rfl rfl rfl (pA rfl rfl) ?_
            refine lTail ?_
            refine lNil ?_
            exact ⟨_, [.cells g3 55 (encCt c), .cells g5 23 (encA d), .cells g7 55 (encCt (addF c l))], _, ⟨_, (by exact rfl), rfl, rfl⟩, ⟨rfl, rfl, trivial⟩, rfl⟩
          · refine wDraw 34 (by kernel_rfl) (by kernel_rfl) ?_
            refine sP rfl rfl rfl (pLdW 2 rfl rfl rfl ty55 (ctx_len hq)) ?_
            refine sP rfl rfl rfl (pLdW 1 rfl rfl rfl ty23 rfl) ?_
            refine sP rfl rfl rfl (p_call rfl (chas_is hq (by omega) hbv) ⟨Sub.refl, Sub.refl, trivial⟩) ?_
            refine sP rfl rfl rfl (pLdW 0 rfl rfl rfl ty55 (ctx_len hv)) ?_
            refine sP rfl rfl rfl (pLdW 1 rfl rfl rfl ty23 rfl) ?_
            refine sP rfl rfl rfl (p_call rfl (chas_is hv (by omega) e1) ⟨Sub.refl, Sub.refl, trivial⟩) ?_
            refine sP rfl rfl rfl (pM rfl rfl) ?_
            refine sG rfl rfl rfl rfl rfl (pM rfl rfl) ?_
            refine sG rfl rfl rfl rfl rfl (pM rfl rfl) ?_
            refine sG rfl rfl rfl rfl rfl (p_fieldAddr_own rfl rfl fl23_0 ty3 (by decide)) ?_
            refine sG rfl rfl rfl rfl rfl (pLdO1 1 rfl rfl rfl ty3 rfl) ?_
            refine sG rfl rfl rfl rfl rfl (p_icmp rfl rfl rfl (geqC_t e3)) ?_
            refine sG rfl rfl rfl rfl rfl (p_pick rfl rfl rfl) ?_
            refine sG rfl rfl rfl rfl rfl (pM rfl rfl) ?_
            refine sG rfl rfl rfl rfl rfl (p_fieldAddr_own rfl rfl fl23_0 ty3 (by decide)) ?_
            refine sG rfl rfl rfl rfl rfl (pLdO1 1 rfl rfl rfl ty3 rfl) ?_
            refine sG rfl rfl rfl rfl rfl (p_icmp rfl rfl rfl (lssq_t e4)) ?_
            refine sG rfl rfl rfl rfl rfl (p_pick rfl rfl rfl) ?_
            refine sG rfl rfl rfl rfl rfl (pM rfl rfl) ?_
            refine sG rfl rfl rfl rfl rfl (p_fieldAddr_own rfl rfl fl23_1 ty3 (by decide)) ?_
            refine sG rfl rfl rfl rfl rfl (pLdO1 1 rfl rfl rfl ty3 rfl) ?_
            refine sG rfl rfl rfl rfl rfl (p_icmp rfl rfl rfl (geqC_t e5)) ?_
            refine sG rfl rfl rfl rfl rfl (p_pick rfl rfl rfl) ?_
            refine sG rfl rfl rfl rfl rfl (pM rfl rfl) ?_
            refine sG rfl rfl rfl rfl rfl (p_fieldAddr_own rfl rfl fl23_1 ty3 (by decide)) ?_
            refine sG rfl rfl rfl rfl rfl (pLdO1 1 rfl rfl rfl ty3 rfl) ?_
            refine sG rfl rfl rfl rfl rfl (p_icmp rfl rfl rfl (leqC_t e6)) ?_
            refine sG rfl rfl rfl rfl rfl (p_pick rfl rfl rfl) ?_
            refine sP rfl rfl rfl (p_pick rfl rfl rfl) ?_
            refine sP rfl rfl rfl (p_beq (r := true) rfl rfl rfl Try.underlying4 rfl) ?_
            refine sP rfl rfl rfl (pM rfl rfl) ?_
            refine sG rfl rfl rfl rfl rfl (p_call rfl (awake13_p) trivial) ?_
            refine sP rfl rfl rfl (p_pick rfl rfl rfl) ?_
            refine sP rfl rfl rfl (pA rfl rfl) ?_
            refine lTail ?_
            refine lNil ?_
            exact ⟨_, [.cells g3 55 (encCt c), .cells g5 23 (encA d), .cells g7 55 (encCt (addF c l))], _, ⟨_, (by exact rfl), rfl, rfl⟩, ⟨rfl, rfl, trivial⟩, rfl⟩
        · rintro L h ⟨b2, hb2, rfl, rfl⟩
          refine wRet ?_
          exact rgs1 (rg_tmp (gives_sub (Sub.of_eq (avB hb2))))
end Go.Proofs.Ytmhkalalcmkpbaa

namespace Go.Proofs.Ytmhkalalcmkpbaa
open Go Go.RowKit
set_option linter.unusedVariables false
set_option linter.unusedSimpArgs false

theorem neqC_f {a : Int} (h : a = 0) : icmp .neq a 0 = some false := congrArg some (by simp [h])

set_option maxHeartbeats 1000000 in
set_option maxRecDepth 100000 in
theorem cjoins_w (y z w : CtxT) (hy : y.1.length = 16) (hz : z.1.length = 16) (hw : w.1.length = 16) : PFn Try.prog False 12 [ctA y, ctA z, ctA w] (bA true) := by
  refine pfn Try.func12 rfl (by kernel_rfl) 99 rfl _ rfl (Nat.le_of_ble_eq_true rfl) (fun X w0 => ?_)
  refine wSeq ?_
  refine wReg ?_
  refine sBox rfl rfl rfl rfl rfl (fun g3 => ?_)
  refine sBox rfl rfl rfl rfl rfl (fun g4 => ?_)
  refine sBox rfl rfl rfl rfl rfl (fun g5 => ?_)
  refine sP rfl rfl rfl (pA rfl rfl) ?_
  refine lNil ?_
  refine wSeq ?_
  refine wCut (fun L h => ∃ b : Bool, b = (!(fewC y && (fewC z && fewC w))) ∧ L = [(3, nP g3), (4, nP g4), (5, nP g5), (23, bA b)] ∧ h = [.cells g3 55 (encCt y), .cells g4 55 (encCt z), .cells g5 55 (encCt w)]) ?_ ?_
  · rcases few3_cases y z w with ⟨e1, hbv⟩ | ⟨e1, e2, hbv⟩ | ⟨e1, e2, e3, hbv⟩ | ⟨e1, e2, e3, hbv⟩
    · refine wReg ?_
      refine sP rfl rfl rfl (pLdW 0 rfl rfl rfl ty55 (ctx_len hy)) ?_
      refine sP rfl rfl rfl (p_call rfl (few13_is hy e1) ⟨Sub.refl, trivial⟩) ?_
      refine sP rfl rfl rfl (p_not rfl rfl) ?_
      refine sP rfl rfl rfl (pM rfl rfl) ?_
      refine sUx rfl rfl rfl (by decide) rfl rfl ?_
      refine sUx rfl rfl rfl (by decide) rfl rfl ?_
      refine sUx rfl rfl rfl (by decide) rfl rfl ?_
      refine sP rfl rfl rfl (p_pick rfl rfl rfl) ?_
      refine sP rfl rfl rfl (pM rfl rfl) ?_
      refine sUx rfl rfl rfl (by decide) rfl rfl ?_
      refine sUx rfl rfl rfl (by decide) rfl rfl ?_
      refine sUx rfl rfl rfl (by decide) rfl rfl ?_
      refine sP rfl rfl rfl (p_pick rfl rfl rfl) ?_
      refine lNil ?_
      exact ⟨_, [.cells g3 55 (encCt y), .cells g4 55 (encCt z), .cells g5 55 (encCt w)], _, ⟨_, (by exact hbv.symm), rfl, rfl⟩, ⟨rfl, rfl, rfl, rfl, trivial⟩, rfl⟩
    · refine wReg ?_
      refine sP rfl rfl rfl (pLdW 0 rfl rfl rfl ty55 (ctx_len hy)) ?_
      refine sP rfl rfl rfl (p_call rfl (few13_is hy e1) ⟨Sub.refl, trivial⟩) ?_
      refine sP rfl rfl rfl (p_not rfl rfl) ?_
      refine sP rfl rfl rfl (pM rfl rfl) ?_
      refine sG rfl rfl rfl rfl rfl (pLdW 1 rfl rfl rfl ty55 (ctx_len hz)) ?_
      refine sG rfl rfl rfl rfl rfl (p_call rfl (few13_is hz e2) ⟨Sub.refl, trivial⟩) ?_
      refine sG rfl rfl rfl rfl rfl (p_not rfl rfl) ?_
      refine sP rfl rfl rfl (p_pick rfl rfl rfl) ?_
      refine sP rfl rfl rfl (pM rfl rfl) ?_
      refine sUx rfl rfl rfl (by decide) rfl rfl ?_
      refine sUx rfl rfl rfl (by decide) rfl rfl ?_
      refine sUx rfl rfl rfl (by decide) rfl rfl ?_
      refine sP rfl rfl rfl (p_pick rfl rfl rfl) ?_
      refine lNil ?_
      exact ⟨_, [.cells g3 55 (encCt y), .cells g4 55 (encCt z), .cells g5 55 (encCt w)], _, ⟨_, (by exact hbv.symm), rfl, rfl⟩, ⟨rfl, rfl, rfl, rfl, trivial⟩, rfl⟩
    · refine wReg ?_
      refine sP rfl rfl rfl (pLdW 0 rfl rfl rfl ty55 (ctx_len hy)) ?_
      refine sP rfl rfl rfl (p_call rfl (few13_is hy e1) ⟨Sub.refl, trivial⟩) ?_
      refine sP rfl rfl rfl (p_not rfl rfl) ?_
      refine sP rfl rfl rfl (pM rfl rfl) ?_
      refine sG rfl rfl rfl rfl rfl (pLdW 1 rfl rfl rfl ty55 (ctx_len hz)) ?_
      refine sG rfl rfl rfl rfl rfl (p_call rfl (few13_is hz e2) ⟨Sub.refl, trivial⟩) ?_
      refine sG rfl rfl rfl rfl rfl (p_not rfl rfl) ?_
      refine sP rfl rfl rfl (p_pick rfl rfl rfl) ?_
      refine sP rfl rfl rfl (pM rfl rfl) ?_
      refine sG rfl rfl rfl rfl rfl (pLdW 2 rfl rfl rfl ty55 (ctx_len hw)) ?_
      refine sG rfl rfl rfl rfl rfl (p_call rfl (few13_is hw e3) ⟨Sub.refl, trivial⟩) ?_
      refine sG rfl rfl rfl rfl rfl (p_not rfl rfl) ?_
      refine sP rfl rfl rfl (p_pick rfl rfl rfl) ?_
      refine lNil ?_
      exact ⟨_, [.cells g3 55 (encCt y), .cells g4 55 (encCt z), .cells g5 55 (encCt w)], _, ⟨_, (by exact hbv.symm), rfl, rfl⟩, ⟨rfl, rfl, rfl, rfl, trivial⟩, rfl⟩
    · refine wReg ?_
      refine sP rfl rfl rfl (pLdW 0 rfl rfl rfl ty55 (ctx_len hy)) ?_
      refine sP rfl rfl rfl (p_call rfl (few13_is hy e1) ⟨Sub.refl, trivial⟩) ?_
      refine sP rfl rfl rfl (p_not rfl rfl) ?_
      refine sP rfl rfl rfl (pM rfl rfl) ?_
      refine sG rfl rfl rfl rfl rfl (pLdW 1 rfl rfl rfl ty55 (ctx_len hz)) ?_
      refine sG rfl rfl rfl rfl rfl (p_call rfl (few13_is hz e2) ⟨Sub.refl, trivial⟩) ?_
      refine sG rfl rfl rfl rfl rfl (p_not rfl rfl) ?_
      refine sP rfl rfl rfl (p_pick rfl rfl rfl) ?_
      refine sP rfl rfl rfl (pM rfl rfl) ?_
      refine sG rfl rfl rfl rfl rfl (pLdW 2 rfl rfl rfl ty55 (ctx_len hw)) ?_
      refine sG rfl rfl rfl rfl rfl (p_call rfl (few13_is hw e3) ⟨Sub.refl, trivial⟩) ?_
      refine sG rfl rfl rfl rfl rfl (p_not rfl rfl) ?_
      refine sP rfl rfl rfl (p_pick rfl rfl rfl) ?_
      refine lNil ?_
      exact ⟨_, [.cells g3 55 (encCt y), .cells g4 55 (encCt z), .cells g5 55 (encCt w)], _, ⟨_, (by exact hbv.symm), rfl, rfl⟩, ⟨rfl, rfl, rfl, rfl, trivial⟩, rfl⟩
  · rintro L h ⟨b, hb, rfl, rfl⟩
    refine wCond rfl (fun hc1 => ?_) (fun hc1 => ?_)
    · refine wSeq ?_
      refine wReg ?_
      refine sP rfl rfl rfl (p_call rfl (awake13_p) trivial) ?_
      refine sP rfl rfl rfl (pA rfl rfl) ?_
      refine lNil ?_
      refine wRet ?_
      exact rgs1 (rg_tmp (gives_sub (Sub.of_eq (rfl))))
    · have hb3 := hb.symm.trans hc1
      rw [Bool.not_eq_false', Bool.and_eq_true, Bool.and_eq_true] at hb3
      have f1 := fewC_le hb3.1
      have f2 := fewC_le hb3.2.1
      have f3 := fewC_le hb3.2.2
      have hj := (clean_join hy hz).len
      have l1 := join_len y z
      have l2 := join_len z y
      have l3 := join_len (joinF y z) w
      have l4 := join_len z w
      have l5 := join_len y (joinF z w)
      have l6 := join_len (joinF y z) z
      have lm : (missF y z).length ≤ 4096 := lackT_len _ _
      have l7 := add_len y (missF y z)
      refine wSkip ?_
      refine wSeq ?_
      refine wReg ?_
      refine sP rfl rfl rfl (pLdW 0 rfl rfl rfl ty55 (ctx_len hy)) ?_
      refine sP rfl rfl rfl (pLdW 1 rfl rfl rfl ty55 (ctx_len hz)) ?_
      refine sP rfl rfl rfl (p_call rfl (cjoin_p y z hy hz (by omega) (by omega)) ⟨Sub.refl, Sub.refl, trivial⟩) ?_
      refine sAlloc rfl rfl rfl rfl ze55 (fun g7 => ?_)
      refine sStore 3 rfl rfl rfl rfl rfl ty55 rfl (ctx_ones' hj) (ctx_len' hj) (Nat.le_of_ble_eq_true rfl) ?_
      refine lNil ?_
      refine wKeep [(3, nP g3), (4, nP g4), (5, nP g5), (7, nP g7)] [.cells g3 55 (encCt y), .cells g4 55 (encCt z), .cells g5 55 (encCt w), .cells g7 55 (encCt (joinF y z))] [] ⟨rfl, rfl, rfl, rfl, trivial⟩ (by
      have e1 : spl (iL zeroV ++ [.x (.slice none 0 0)]) 0 (encCt (joinF y z)) = encCt (joinF y z) := ctx_spl rfl (ctx_len' hj)
      show [_, _, _, HObj.cells g7 _ (spl (iL zeroV ++ [.x (.slice none 0 0)]) 0 (encCt (joinF y z)))] = _
      rw [e1]
      rfl) ?_
      refine wSeq ?_
      refine wSeq ?_
      refine wDraw 31 (by kernel_rfl) (by kernel_rfl) ?_
      refine sP rfl rfl rfl (pLdW 3 rfl rfl rfl ty55 (ctx_len hj)) ?_
      refine sP rfl rfl rfl (pLdW 1 rfl rfl rfl ty55 (ctx_len hz)) ?_
      refine sP rfl rfl rfl (pLdW 0 rfl rfl rfl ty55 (ctx_len hy)) ?_
      refine sP rfl rfl rfl (p_call rfl (cjoin_p z y hz hy (by omega) (by omega)) ⟨Sub.refl, Sub.refl, trivial⟩) ?_
      refine sP rfl rfl rfl (p_call rfl (rcsame_is hj (clean_join hz hy).len (by omega) (by omega) (decide_eq_true (join_comm hy hz))) ⟨Sub.refl, Sub.refl, trivial⟩) ?_
      refine sP rfl rfl rfl (p_not rfl rfl) ?_
      refine sP rfl rfl rfl (pM rfl rfl) ?_
      refine sG rfl rfl rfl rfl rfl (pLdW 3 rfl rfl rfl ty55 (ctx_len hj)) ?_
      refine sG rfl rfl rfl rfl rfl (pLdW 2 rfl rfl rfl ty55 (ctx_len hw)) ?_
      refine sG rfl rfl rfl rfl rfl (p_call rfl (cjoin_p (joinF y z) w hj hw (by omega) (by omega)) ⟨Sub.refl, Sub.refl, trivial⟩) ?_
      refine sG rfl rfl rfl rfl rfl (pLdW 0 rfl rfl rfl ty55 (ctx_len hy)) ?_
      refine sG rfl rfl rfl rfl rfl (pLdW 1 rfl rfl rfl ty55 (ctx_len hz)) ?_
      refine sG rfl rfl rfl rfl rfl (pLdW 2 rfl rfl rfl ty55 (ctx_len hw)) ?_
      refine sG rfl rfl rfl rfl rfl (p_call rfl (cjoin_p z w hz hw (by omega) (by omega)) ⟨Sub.refl, Sub.refl, trivial⟩) ?_
      refine sG rfl rfl rfl rfl rfl (p_call rfl (cjoin_p y (joinF z w) hy (clean_join hz hw).len (by omega) (by omega)) ⟨Sub.refl, Sub.refl, trivial⟩) ?_
      refine sG rfl rfl rfl rfl rfl (p_call rfl (rcsame_is (clean_join hj hw).len (clean_join hy (clean_join hz hw).len).len (by omega) (by omega) (decide_eq_true (join_assoc hy hz hw))) ⟨Sub.refl, Sub.refl, trivial⟩) ?_
      refine sG rfl rfl rfl rfl rfl (p_not rfl rfl) ?_
      refine sP rfl rfl rfl (p_pick rfl rfl rfl) ?_
      refine sP rfl rfl rfl (pM rfl rfl) ?_
      refine sG rfl rfl rfl rfl rfl (pLdW 3 rfl rfl rfl ty55 (ctx_len hj)) ?_
      refine sG rfl rfl rfl rfl rfl (pLdW 1 rfl rfl rfl ty55 (ctx_len hz)) ?_
      refine sG rfl rfl rfl rfl rfl (p_call rfl (cjoin_p (joinF y z) z hj hz (by omega) (by omega)) ⟨Sub.refl, Sub.refl, trivial⟩) ?_
      refine sG rfl rfl rfl rfl rfl (pLdW 3 rfl rfl rfl ty55 (ctx_len hj)) ?_
      refine sG rfl rfl rfl rfl rfl (p_call rfl (rcsame_is (clean_join hj hz).len hj (by omega) (by omega) (decide_eq_true (join_again hy hz))) ⟨Sub.refl, Sub.refl, trivial⟩) ?_
      refine sG rfl rfl rfl rfl rfl (p_not rfl rfl) ?_
      refine sP rfl rfl rfl (p_pick rfl rfl rfl) ?_
      refine sP rfl rfl rfl (pM rfl rfl) ?_
      refine sG rfl rfl rfl rfl rfl (pLdW 3 rfl rfl rfl ty55 (ctx_len hj)) ?_
      refine sG rfl rfl rfl rfl rfl (p_call rfl (ccheck_p (joinF y z) hj (by omega)) ⟨Sub.refl, trivial⟩) ?_
      refine sG rfl rfl rfl rfl rfl (p_icmp rfl rfl rfl (neqC_f (ctxE_clean (clean_join hy hz)))) ?_
      refine sP rfl rfl rfl (p_pick rfl rfl rfl) ?_
      refine lTail ?_
      refine lNil ?_
      refine wCond rfl (fun hc2 => ?_) (fun hc2 => ?_)
      · refine wSeq ?_
        refine wReg ?_
        refine sP rfl rfl rfl (pA rfl rfl) ?_
        refine lNil ?_
        refine wRet ?_
        cases hc2
      · refine wSkip ?_
        refine wSeq ?_
        refine wSeq ?_
        refine wReg ?_
        refine sP rfl rfl rfl (pA rfl rfl) ?_
        refine lNil ?_
        refine wBlock ?_
        refine wLoop (fun mm L h => ∃ i, mm = w.2.length - i ∧ i ≤ w.2.length ∧ L = [(3, nP g3), (4, nP g4), (5, nP g5), (7, nP g7), (8, iA (i : Nat))] ∧ h = [.cells g3 55 (encCt y), .cells g4 55 (encCt z), .cells g5 55 (encCt w), .cells g7 55 (encCt (joinF y z))]) ⟨_, _, _, _, ⟨0, rfl, Nat.zero_le _, rfl, rfl⟩, ⟨rfl, rfl, rfl, rfl, rfl, trivial⟩, rfl⟩ ?_
        rintro mm L h ⟨i, rfl, hi, rfl, rfl⟩
        refine wSeq ?_
        refine wSeq ?_
        refine wReg ?_
        refine sP rfl rfl rfl (pM rfl rfl) ?_
        refine sP rfl rfl rfl (p_fieldAddr_own rfl rfl fl55_1 ty27 (by decide)) ?_
        refine sP rfl rfl rfl (pLdO1 2 rfl rfl rfl ty27 (ctx_C hw)) ?_
        refine sP rfl rfl rfl (p_len_sl rfl rfl Try.underlying27) ?_
        refine sP rfl rfl rfl (p_icmp rfl rfl rfl rfl) ?_
        refine lNil ?_
        refine wCond rfl (fun hc3 => ?_) (fun hc3 => ?_)
        · have hlt : i < w.2.length := by simpa using hc3
          obtain ⟨x, hx⟩ := getL hlt
          refine wSkip ?_
          refine wSeq ?_
          refine wBlock ?_
          refine wSeq ?_
          refine wReg ?_
          refine sP rfl rfl rfl (p_fieldAddr_own rfl rfl fl55_1 ty27 (by decide)) ?_
          refine sP rfl rfl rfl (pLdO1 2 rfl rfl rfl ty27 (ctx_C hw)) ?_
          refine sP rfl rfl rfl (pM rfl rfl) ?_
          refine sP rfl rfl rfl (pIdx i rfl rfl Try.underlying27 ty23 (by decide) rfl (fun _ => rfl) rfl rfl hx) ?_
          refine sP rfl rfl rfl (pLdE rfl rfl ty23 rfl) ?_
          refine sAlloc rfl rfl rfl rfl ze23 (fun g9 => ?_)
          refine sStore 4 rfl rfl rfl rfl rfl ty23 rfl rfl rfl (Nat.le_of_ble_eq_true rfl) ?_
          refine lNil ?_
          refine wCut (fun L h => ∃ b : Bool, b = (false) ∧ L = [(3, nP g3), (4, nP g4), (5, nP g5), (7, nP g7), (8, iA (i : Nat)), (82, bA b)] ∧ h = [.cells g3 55 (encCt y), .cells g4 55 (encCt z), .cells g5 55 (encCt w), .cells g7 55 (encCt (joinF y z)), .cells g9 23 (encA x)]) ?_ ?_
          · rcases join_cases hy hz x with ⟨e1, hbv⟩ | ⟨e1, e2, hbv⟩ | ⟨e1, e2, hbv⟩
            · refine wDraw 12 (by kernel_rfl) (by kernel_rfl) ?_
              refine sP rfl rfl rfl (pLdW 3 rfl rfl rfl ty55 (ctx_len hj)) ?_
              refine sP rfl rfl rfl (pLdW 4 rfl rfl rfl ty23 rfl) ?_
              refine sP rfl rfl rfl (p_call rfl (chas_is hj (by omega) hbv) ⟨Sub.refl, Sub.refl, trivial⟩) ?_
              refine sP rfl rfl rfl (pLdW 0 rfl rfl rfl ty55 (ctx_len hy)) ?_
              refine sP rfl rfl rfl (pLdW 4 rfl rfl rfl ty23 rfl) ?_
              refine sP rfl rfl rfl (p_call rfl (chas_is hy (by omega) e1) ⟨Sub.refl, Sub.refl, trivial⟩) ?_
              refine sP rfl rfl rfl (pM rfl rfl) ?_
              refine sUx rfl rfl rfl (by decide) rfl rfl ?_
              refine sUx rfl rfl rfl (by decide) rfl rfl ?_
              refine sUx rfl rfl rfl (by decide) rfl rfl ?_
              refine sP rfl rfl rfl (p_pick rfl rfl rfl) ?_
              refine sP rfl rfl rfl (p_bneC (r := false) rfl rfl rfl Try.underlying4 rfl) ?_
              refine lTail ?_
              refine lNil ?_
              exact ⟨_, [.cells g3 55 (encCt y), .cells g4 55 (encCt z), .cells g5 55 (encCt w), .cells g7 55 (encCt (joinF y z)), .cells g9 23 (encA x)], _, ⟨_, (by exact rfl), rfl, rfl⟩, ⟨rfl, rfl, rfl, rfl, rfl, rfl, trivial⟩, rfl⟩
            · refine wDraw 12 (by kernel_rfl) (by kernel_rfl) ?_
              refine sP rfl rfl rfl (pLdW 3 rfl rfl rfl ty55 (ctx_len hj)) ?_
              refine sP rfl rfl rfl (pLdW 4 rfl rfl rfl ty23 rfl) ?_
              refine sP rfl rfl rfl (p_call rfl (chas_is hj (by omega) hbv) ⟨Sub.refl, Sub.refl, trivial⟩) ?_
              refine sP rfl rfl rfl (pLdW 0 rfl rfl rfl ty55 (ctx_len hy)) ?_
              refine sP rfl rfl rfl (pLdW 4 rfl rfl rfl ty23 rfl) ?_
              refine sP rfl rfl rfl (p_call rfl (chas_is hy (by omega) e1) ⟨Sub.refl, Sub.refl, trivial⟩) ?_
              refine sP rfl rfl rfl (pM rfl rfl) ?_
              refine sG rfl rfl rfl rfl rfl (pLdW 1 rfl rfl rfl ty55 (ctx_len hz)) ?_
              refine sG rfl rfl rfl rfl rfl (pLdW 4 rfl rfl rfl ty23 rfl) ?_
              refine sG rfl rfl rfl rfl rfl (p_call rfl (chas_is hz (by omega) e2) ⟨Sub.refl, Sub.refl, trivial⟩) ?_
              refine sP rfl rfl rfl (p_pick rfl rfl rfl) ?_
              refine sP rfl rfl rfl (p_bneC (r := false) rfl rfl rfl Try.underlying4 rfl) ?_
              refine lTail ?_
              refine lNil ?_
              exact ⟨_, [.cells g3 55 (encCt y), .cells g4 55 (encCt z), .cells g5 55 (encCt w), .cells g7 55 (encCt (joinF y z)), .cells g9 23 (encA x)], _, ⟨_, (by exact rfl), rfl, rfl⟩, ⟨rfl, rfl, rfl, rfl, rfl, rfl, trivial⟩, rfl⟩
            · refine wDraw 12 (by kernel_rfl) (by kernel_rfl) ?_
              refine sP rfl rfl rfl (pLdW 3 rfl rfl rfl ty55 (ctx_len hj)) ?_
              refine sP rfl rfl rfl (pLdW 4 rfl rfl rfl ty23 rfl) ?_
              refine sP rfl rfl rfl (p_call rfl (chas_is hj (by omega) hbv) ⟨Sub.refl, Sub.refl, trivial⟩) ?_
              refine sP rfl rfl rfl (pLdW 0 rfl rfl rfl ty55 (ctx_len hy)) ?_
              refine sP rfl rfl rfl (pLdW 4 rfl rfl rfl ty23 rfl) ?_
              refine sP rfl rfl rfl (p_call rfl (chas_is hy (by omega) e1) ⟨Sub.refl, Sub.refl, trivial⟩) ?_
              refine sP rfl rfl rfl (pM rfl rfl) ?_
              refine sG rfl rfl rfl rfl rfl (pLdW 1 rfl rfl rfl ty55 (ctx_len hz)) ?_
              refine sG rfl rfl rfl rfl rfl (pLdW 4 rfl rfl rfl ty23 rfl) ?_
              refine sG rfl rfl rfl rfl rfl (p_call rfl (chas_is hz (by omega) e2) ⟨Sub.refl, Sub.refl, trivial⟩) ?_
              refine sP rfl rfl rfl (p_pick rfl rfl rfl) ?_
              refine sP rfl rfl rfl (p_bneC (r := false) rfl rfl rfl Try.underlying4 rfl) ?_
              refine lTail ?_
              refine lNil ?_
              exact ⟨_, [.cells g3 55 (encCt y), .cells g4 55 (encCt z), .cells g5 55 (encCt w), .cells g7 55 (encCt (joinF y z)), .cells g9 23 (encA x)], _, ⟨_, (by exact rfl), rfl, rfl⟩, ⟨rfl, rfl, rfl, rfl, rfl, rfl, trivial⟩, rfl⟩
          · rintro L h ⟨b3, rfl, rfl, rfl⟩
            refine wCond rfl (fun hc4 => ?_) (fun hc4 => ?_)
            · refine wSeq ?_
              refine wReg ?_
              refine sP rfl rfl rfl (pA rfl rfl) ?_
              refine lNil ?_
              refine wRet ?_
              cases hc4
            · refine wSkip ?_
              refine wReg ?_
              refine sP rfl rfl rfl (pM rfl rfl) ?_
              refine sP rfl rfl rfl (p_iar rfl rfl rfl rfl) ?_
              refine sP rfl rfl rfl (pA rfl rfl) ?_
              refine lNil ?_
              refine ⟨_, _, [.cells g3 55 (encCt y), .cells g4 55 (encCt z), .cells g5 55 (encCt w), .cells g7 55 (encCt (joinF y z))], _, ?_, ⟨i + 1, rfl, hlt, rfl, rfl⟩, ⟨rfl, rfl, rfl, rfl, avI (wrapI (by omega) (by omega)), trivial⟩, rfl⟩
              omega
        · refine wExit ?_
          refine wSeq ?_
          refine wReg ?_
          refine sP rfl rfl rfl (pLdW 0 rfl rfl rfl ty55 (ctx_len hy)) ?_
          refine sP rfl rfl rfl (pLdW 1 rfl rfl rfl ty55 (ctx_len hz)) ?_
          refine sP rfl rfl rfl (p_call rfl (cmiss_p y z hy hz (by omega) (by omega)) ⟨Sub.refl, Sub.refl, trivial⟩) ?_
          refine sP rfl rfl rfl (pAs rfl rfl) ?_
          refine lNil ?_
          refine wCut (fun L h => ∃ b : Bool, b = (true) ∧ L = [(3, nP g3), (6, bA b)] ∧ h = [.cells g3 55 (encCt y), .cells g4 55 (encCt z), .cells g5 55 (encCt w), .cells g7 55 (encCt (joinF y z))]) ?_ ?_
          · rcases Nat.lt_or_ge (missF y z).length 4096 with e1 | e1
            · refine wDraw 14 (by kernel_rfl) (by kernel_rfl) ?_
              refine sP rfl rfl rfl (pMs rfl rfl) ?_
              refine sP rfl rfl rfl (p_len_sl rfl rfl Try.underlying27) ?_
              refine sP rfl rfl rfl (p_icmp rfl rfl rfl (geqC_f (by omega))) ?_
              refine sP rfl rfl rfl (pM rfl rfl) ?_
              refine sG rfl rfl rfl rfl rfl (pLdW 0 rfl rfl rfl ty55 (ctx_len hy)) ?_
              refine sG rfl rfl rfl rfl rfl (pMs rfl rfl) ?_
              refine sG rfl rfl rfl rfl rfl (p_call rfl (cadd_p y (missF y z) hy (by omega) (by omega)) ⟨Sub.refl, Sub.refl, trivial⟩) ?_
              refine sG rfl rfl rfl rfl rfl (pLdW 3 rfl rfl rfl ty55 (ctx_len hj)) ?_
              refine sG rfl rfl rfl rfl rfl (p_call rfl (rcsame_is (clean_add (c := y) hy _).len hj (by omega) (by omega) (decide_eq_true (add_miss hy hz e1))) ⟨Sub.refl, Sub.refl, trivial⟩) ?_
              refine sP rfl rfl rfl (p_pick rfl rfl rfl) ?_
              refine sP rfl rfl rfl (pM rfl rfl) ?_
              refine sG rfl rfl rfl rfl rfl (p_call rfl (awake13_p) trivial) ?_
              refine sP rfl rfl rfl (p_pick rfl rfl rfl) ?_
              refine sP rfl rfl rfl (pA rfl rfl) ?_
              refine lTail ?_
              refine lNil ?_
              exact ⟨_, [.cells g3 55 (encCt y), .cells g4 55 (encCt z), .cells g5 55 (encCt w), .cells g7 55 (encCt (joinF y z))], _, ⟨_, (by exact rfl), rfl, rfl⟩, ⟨rfl, rfl, trivial⟩, rfl⟩
            · refine wDraw 14 (by kernel_rfl) (by kernel_rfl) ?_
              refine sP rfl rfl rfl (pMs rfl rfl) ?_
              refine sP rfl rfl rfl (p_len_sl rfl rfl Try.underlying27) ?_
              refine sP rfl rfl rfl (p_icmp rfl rfl rfl (geqC_t (by omega))) ?_
              refine sP rfl rfl rfl (pM rfl rfl) ?_
              refine sUx rfl rfl rfl (by decide) rfl rfl ?_
              refine sUx rfl rfl rfl (by decide) rfl rfl ?_
              refine sUx rfl rfl rfl (by decide) rfl rfl ?_
              refine sUx rfl rfl rfl (by decide) rfl rfl ?_
              refine sUx rfl rfl rfl (by decide) rfl rfl ?_
              refine sP rfl rfl rfl (p_pick rfl rfl rfl) ?_
              refine sP rfl rfl rfl (pM rfl rfl) ?_
              refine sG rfl rfl rfl rfl rfl (p_call rfl (awake13_p) trivial) ?_
              refine sP rfl rfl rfl (p_pick rfl rfl rfl) ?_
              refine sP rfl rfl rfl (pA rfl rfl) ?_
              refine lTail ?_
              refine lNil ?_
              exact ⟨_, [.cells g3 55 (encCt y), .cells g4 55 (encCt z), .cells g5 55 (encCt w), .cells g7 55 (encCt (joinF y z))], _, ⟨_, (by exact rfl), rfl, rfl⟩, ⟨rfl, rfl, trivial⟩, rfl⟩
          · rintro L h ⟨b2, hb2, rfl, rfl⟩
            refine wRet ?_
            exact rgs1 (rg_tmp (gives_sub (Sub.of_eq (avB hb2))))
end Go.Proofs.Ytmhkalalcmkpbaa

namespace Go.Proofs.Ytmhkalalcmkpbaa
open Go Go.ChangeShapes Go.WideShapes Go.ChangeAt Go.RowKit
set_option linter.unusedVariables false
theorem slice_bounds {P : Program} {W : World} {r : Reach} {b : Nat} {t e : TypeId} {a : Option Addr} {len cap : Nat} (ht : P.underlying t = some (.slice e)) (h : Value.okWide P W r b t (.slice a len cap)) : len ≤ cap ∧ cap ≤ 9223372036854775807 := by
  simp only [Value.okWide, ht, Cell.okWide] at h
  cases a with
  | none => 
    cases len <;> cases cap <;> simp_all [Cell.ok]
  | some ad =>
    simp only [Cell.ok, ht] at h
    have h2 : (cap : Int) ≤ 9223372036854775807 := h.2.1
    exact ⟨h.1, by omega⟩
end Go.Proofs.Ytmhkalalcmkpbaa

namespace Go.Proofs.Ytmhkalalcmkpbaa
open Go Go.ChangeShapes Go.WideShapes Go.ChangeAt Go.RowKit Go.Deep
set_option linter.unusedVariables false
set_option linter.unusedSimpArgs false

theorem dots_repC {w : World} {A : Option Addr} {n c : Nat} {l : List (Int × Int)} (hl : l.length = n) (hnc : n ≤ c) (hcm : c ≤ 9223372036854775807) (hr : RdD w w.heap.size A n l) : Rep (fun _ => False) w (slD l) (.slice A n c) := by
  subst hl
  simp only [Rep]
  refine ⟨slD_len l, A, c, rfl, hnc, hcm, ?_⟩
  rcases Nat.eq_zero_or_pos l.length with h0 | h0
  · exact .inl (by rw [h0])
  · obtain ⟨ad, h1, h2, h3⟩ := hr.2 h0
    refine .inr ⟨ad, h1, h2, fun h => h, ?_⟩
    refine RepC.mk fun j cc hj => ?_
    rw [encA_flat, List.getElem?_map] at hj
    obtain ⟨u, hu, rfl⟩ := Option.map_eq_some_iff.1 hj
    exact ⟨u, h3 j u hu, rep_x.2 rfl⟩
theorem rowWideC {P : Program} {W : World} {r : Reach} {b : Nat} {t u : TypeId} {ts : List TypeId} {cs : Array Value} {i : Nat} {v : Value} (h : Row.okWide P W r b t cs) (hts : P.cellTypes P.depth t = some ts) (hv : cs[i]? = some v) (hi : i < ts.length) (hu : ts[i]? = some u) : Cell.okWide P W r b u v := by
  obtain ⟨ts', h1, _, h2⟩ := h
  rw [hts] at h1
  injection h1 with h1
  subst h1
  obtain ⟨u', h3, h4⟩ := h2 i v hv
  rw [Nat.mod_eq_of_lt hi, hu] at h3
  injection h3 with h3
  subst h3
  exact h4
set_option maxRecDepth 100000 in
theorem read_ctx {H : Type} {enc : TypeId × Value → H} {W : World} {b0 : Nat} {r : Reach} {b1 : Nat} {hd : Bool} {v : Value} {d : DataW H} {p : List MemPlace}
    (hv : Value.okWide Try.prog W r b1 55 v) (h : DataW.Trod enc Try.prog W b0 (fun _ => true) hd 55 v d p) : ∃ x : CtxT, x.1.length = 16 ∧ Rep (fun _ => False) W (ctA x) v := by
  have hv0 := hv
  simp only [Value.okWide, Try.underlying55] at hv0
  obtain ⟨us, rfl, hsz, hrow⟩ := hv0
  obtain ⟨fuel, hf⟩ := h
  obtain ⟨ys, n, _, hx, hlen, hyl, hfs⟩ := DataW.trod_struct Try.underlying55 hf
  have hC : Try.prog.cellsOf 55 = 17 := by kernel_rfl
  have hG : Try.prog.cellsOf 27 = 1 := by kernel_rfl
  obtain ⟨l⟩ := us
  rw [hC] at hsz
  have hsz' : l.length = 17 := hsz
  match l, hsz' with
  | [c0, c1, c2, c3, c4, c5, c6, c7, c8, c9, c10, c11, c12, c13, c14, c15, c16], _ =>
    match ys, hyl with
    | [y0, y1], _ =>
      have h1 : DataW.trod enc Try.prog W b0 (fun _ => true) hd n 27 ((([c0, c1, c2, c3, c4, c5, c6, c7, c8, c9, c10, c11, c12, c13, c14, c15, c16] : List Value).drop 16).take (Try.prog.cellsOf 27)) = some y1 := hfs 1 _ rfl
      rw [hG] at h1
      have hts : Try.prog.cellTypes Try.prog.depth 55 = some [3, 3, 3, 3, 3, 3, 3, 3, 3, 3, 3, 3, 3, 3, 3, 3, 27] := by kernel_rfl
      have wi : ∀ (i : Nat) (c : Value), i < 16 → ([c0, c1, c2, c3, c4, c5, c6, c7, c8, c9, c10, c11, c12, c13, c14, c15, c16] : List Value)[i]? = some c → ([3, 3, 3, 3, 3, 3, 3, 3, 3, 3, 3, 3, 3, 3, 3, 3, 27] : List TypeId)[i]? = some 3 → ∃ z, c = .int .i64 z := fun i c hi hc ht => okWide_int Try.underlying3 (by
        simp only [Value.okWide, Try.underlying3]
        exact rowWideC (i := i) hrow hts (by simpa using hc) (by show i < 17; omega) ht)
      obtain ⟨z0, rfl⟩ := wi 0 c0 (by decide) rfl rfl
      obtain ⟨z1, rfl⟩ := wi 1 c1 (by decide) rfl rfl
      obtain ⟨z2, rfl⟩ := wi 2 c2 (by decide) rfl rfl
      obtain ⟨z3, rfl⟩ := wi 3 c3 (by decide) rfl rfl
      obtain ⟨z4, rfl⟩ := wi 4 c4 (by decide) rfl rfl
      obtain ⟨z5, rfl⟩ := wi 5 c5 (by decide) rfl rfl
      obtain ⟨z6, rfl⟩ := wi 6 c6 (by decide) rfl rfl
      obtain ⟨z7, rfl⟩ := wi 7 c7 (by decide) rfl rfl
      obtain ⟨z8, rfl⟩ := wi 8 c8 (by decide) rfl rfl
      obtain ⟨z9, rfl⟩ := wi 9 c9 (by decide) rfl rfl
      obtain ⟨z10, rfl⟩ := wi 10 c10 (by decide) rfl rfl
      obtain ⟨z11, rfl⟩ := wi 11 c11 (by decide) rfl rfl
      obtain ⟨z12, rfl⟩ := wi 12 c12 (by decide) rfl rfl
      obtain ⟨z13, rfl⟩ := wi 13 c13 (by decide) rfl rfl
      obtain ⟨z14, rfl⟩ := wi 14 c14 (by decide) rfl rfl
      obtain ⟨z15, rfl⟩ := wi 15 c15 (by decide) rfl rfl
      have w16 : Value.okWide Try.prog W r b1 27 c16 := by
        simp only [Value.okWide, Try.underlying27]
        exact rowWideC (i := 16) hrow hts rfl (by decide) rfl
      obtain ⟨a, n16, k, rfl⟩ := okWide_slice Try.underlying27 w16
      obtain ⟨b6, m6⟩ := slice_bounds Try.underlying27 w16
      obtain ⟨gs, q3⟩ := read_dots (a := a) (len := n16) (cap := k) (d := y1.1) (p := y1.2) ⟨n, h1⟩
      refine ⟨([z0, z1, z2, z3, z4, z5, z6, z7, z8, z9, z10, z11, z12, z13, z14, z15], gs), rfl, ?_⟩
      simp only [Rep]
      refine ⟨_, rfl, rfl, ?_⟩
      simp only [encCt, List.map, List.cons_append, List.nil_append, RepC]
      exact ⟨⟨_, rfl, rep_x.2 rfl⟩, ⟨_, rfl, rep_x.2 rfl⟩, ⟨_, rfl, rep_x.2 rfl⟩, ⟨_, rfl, rep_x.2 rfl⟩, ⟨_, rfl, rep_x.2 rfl⟩, ⟨_, rfl, rep_x.2 rfl⟩, ⟨_, rfl, rep_x.2 rfl⟩, ⟨_, rfl, rep_x.2 rfl⟩, ⟨_, rfl, rep_x.2 rfl⟩, ⟨_, rfl, rep_x.2 rfl⟩, ⟨_, rfl, rep_x.2 rfl⟩, ⟨_, rfl, rep_x.2 rfl⟩, ⟨_, rfl, rep_x.2 rfl⟩, ⟨_, rfl, rep_x.2 rfl⟩, ⟨_, rfl, rep_x.2 rfl⟩, ⟨_, rfl, rep_x.2 rfl⟩, ⟨_, rfl, dots_repC q3.len b6 m6 q3⟩, trivial⟩
theorem dot_repC {w : World} (d : Int × Int) : Rep (fun _ => False) w (dA d) (dotv d) := by
  simp only [Rep]
  refine ⟨_, rfl, rfl, ?_⟩
  simp only [encA, RepC]
  exact ⟨⟨_, rfl, rep_x.2 rfl⟩, ⟨_, rfl, rep_x.2 rfl⟩, trivial⟩
theorem cgrows_walk (c : CtxT) (l : List (Int × Int)) (d : Int × Int) (u v : Value) (w : World) (hv : c.1.length = 16) (hc : Rep (fun _ => False) w (ctA c) u) (hl : Rep (fun _ => False) w (slD l) v) : Calls Try.prog 8 #[u, v, dotv d] w fun e w' => e = .returned (.bool true) ∧ Below w.heap.size w w' := by
  have hr : RepC (fun _ => False) w [ctA c, slD l, dA d] (fun j => (#[u, v, dotv d] : Array Value)[j]?) := by
    simp only [RepC]
    exact ⟨⟨_, rfl, hc⟩, ⟨_, rfl, hl⟩, ⟨_, rfl, dot_repC d⟩, trivial⟩
  refine ((cgrows_w c l d hv).calls (fun _ => False) w _ (fun b hb => hb.elim) rfl hr).mono ?_
  rintro e w' ⟨r, rfl, h2, h3⟩
  rw [rep_x] at h2
  subst h2
  exact ⟨rfl, h3.b⟩
end Go.Proofs.Ytmhkalalcmkpbaa

namespace Go.Proofs.Ytmhkalalcmkpbaa
open Go Go.ChangeShapes Go.WideShapes Go.ChangeAt Go.RowKit Go.Deep
set_option linter.unusedVariables false
set_option linter.unusedSimpArgs false

theorem cjoins_walk (y z w0 : CtxT) (u v s : Value) (w : World) (hy : y.1.length = 16) (hz : z.1.length = 16) (hw : w0.1.length = 16) (h1 : Rep (fun _ => False) w (ctA y) u) (h2 : Rep (fun _ => False) w (ctA z) v) (h3 : Rep (fun _ => False) w (ctA w0) s) : Calls Try.prog 12 #[u, v, s] w fun e w' => e = .returned (.bool true) ∧ Below w.heap.size w w' := by
  have hr : RepC (fun _ => False) w [ctA y, ctA z, ctA w0] (fun j => (#[u, v, s] : Array Value)[j]?) := by
    simp only [RepC]
    exact ⟨⟨_, rfl, h1⟩, ⟨_, rfl, h2⟩, ⟨_, rfl, h3⟩, trivial⟩
  refine ((cjoins_w y z w0 hy hz hw).calls (fun _ => False) w _ (fun b hb => hb.elim) rfl hr).mono ?_
  rintro e w' ⟨r, rfl, h2, h3⟩
  rw [rep_x] at h2
  subst h2
  exact ⟨rfl, h3.b⟩
end Go.Proofs.Ytmhkalalcmkpbaa
