/-
  Cput Cread Lca C11 Lca2 Rcau Rctx Rcmiss Rcput Lcr ReadS ReadCt ReadCr
-/
import Derived.Test.YtmhkalalcmkpbaaZC8
import Derived.Test.YtmhkalalcmkpbaaZCau3
import Derived.Test.YtmhkalalcmkpbaaZMiss
import Derived.Test.YtmhkalalcmkpbaaZRdr
import Derived.Test.YtmhkalalcmkpbaaZReadArg
import Derived.Test.YtmhkalalcmkpbaaZReadD
namespace Go.Proofs.Ytmhkalalcmkpbaa
open Go Go.RowKit
set_option linter.unusedVariables false
set_option linter.unusedSimpArgs false

theorem readD_lenC (s : ByteArray) : (readD s).1.length ≤ 4096 := by
  unfold readD
  split
  · simp
  · split
    · simp
    · split
      · simp
      · rename_i h _ _
        have key : ∀ (n : Nat) (st : ByteArray × Int), (rdL n st).1.length ≤ n := by
          intro n
          induction n with
          | zero => intro st; simp [rdL]
          | succ n ih =>
            intro st
            by_cases h : st.2 = 0
            · rw [rdL_step _ _ h]; have := ih (rdN (rdN st).2).2; simp; omega
            · rw [rdL_stop _ _ h]; simp
        have := key (rdN (s, 0)).1 (rdN (s, 0)).2
        show (rdL (rdN (s, 0)).1 (rdN (s, 0)).2).1.length ≤ 4096
        omega
theorem putSD_sizeC (l : List (Int × Int)) : (putS l).size ≤ 8 + 16 * l.length := by
  unfold putS
  split
  · exact Nat.zero_le _
  · have h1 := putL_size l (numS l.length)
    have h2 := numS_size l.length
    omega
def lk (y z : CtxT) : Bool := decide ((0 : Int) < ((missF y z).length : Nat))
theorem lk_eq (y z : CtxT) : decide (0 < (missF y z).length) = lk y z := by
  unfold lk
  by_cases h : 0 < (missF y z).length
  · rw [decide_eq_true h, decide_eq_true (by omega)]
  · rw [decide_eq_false h, decide_eq_false (by omega)]
theorem cmp_of {y z : CtxT} {a b : Bool} (ha : lk y z = a) (hb : lk z y = b) : compareF y z = cmpC a b := by unfold compareF; rw [lk_eq, lk_eq, ha, hb]
theorem cmp_2 {y z : CtxT} (h : (lk y z && lk z y) = true) : compareF y z = 2 := by rw [Bool.and_eq_true] at h; rw [cmp_of h.1 h.2]; rfl
theorem cmp_l {y z : CtxT} (h : (lk y z && lk z y) = false) (h2 : lk y z = true) : compareF y z = -1 := by rw [h2, Bool.true_and] at h; rw [cmp_of h2 h]; rfl
theorem cmp_m {y z : CtxT} (h2 : lk y z = false) (h3 : lk z y = true) : compareF y z = 1 := by rw [cmp_of h2 h3]; rfl
theorem cmp_0 {y z : CtxT} (h2 : lk y z = false) (h3 : lk z y = false) : compareF y z = 0 := by rw [cmp_of h2 h3]; rfl
theorem cputE_1 {c : CtxT} (h : ctxE c ≠ 0) : cputE c = ctxE c := if_pos h
theorem ctx_putE {c : CtxT} (hl : c.1.length = 16) (h : ctxE c = 0) : putE c.2 = if 4096 < c.2.length then 3 else 0 := by
  have hc : Clean c := by have := clean_F hl; rw [(ctxE_zero h).2] at this; exact this
  unfold putE; rw [mayE_G, clean_may hc]
theorem cputE_2 {c : CtxT} (hl : c.1.length = 16) (h : ctxE c = 0) (h2 : putE c.2 ≠ 0) : cputE c = putE c.2 := by
  have e := ctx_putE hl h
  by_cases g : 4096 < c.2.length
  · rw [if_pos g] at e
    unfold cputE; rw [if_neg (by simpa using h), if_pos g, e]
  · rw [if_neg g] at e; exact absurd e h2
theorem cputE_3 {c : CtxT} (hl : c.1.length = 16) (h : ctxE c = 0) (h2 : putE c.2 = 0) : cputE c = txE (putS c.2) := by
  have e := ctx_putE hl h
  by_cases g : 4096 < c.2.length
  · rw [if_pos g, h2] at e; cases e
  · unfold cputE txE; rw [if_neg (by simpa using h), if_neg g]
theorem cputS_e {c : CtxT} (h : cputE c ≠ 0) : cputS c = ⟨#[]⟩ := if_pos h
theorem cputS_o {c : CtxT} (h : cputE c = 0) : cputS c = cat (c.1.map numS) ++ txS (putS c.2) := if_neg (by simpa using h)
theorem ctx_vE {c : CtxT} (h : ctxE c = 0) : vE c.1 = 0 := by unfold ctxE at h; exact (ifE h).1
theorem vputS_o {v : List Int} (h : vE v = 0) : vputS v = cat (v.map numS) := if_neg (by simpa using h)
theorem vputS_size {v : List Int} (hv : v.length = 16) : (vputS v).size ≤ 128 := by
  unfold vputS
  split
  · exact Nat.zero_le _
  · have h := cat_size (k := 8) (v.map numS) fun x hx => by obtain ⟨n, _, rfl⟩ := List.mem_map.1 hx; exact numS_size n
    rw [List.length_map] at h
    omega

set_option maxRecDepth 100000 in
theorem ccompare_p (y z : CtxT) (ha : y.1.length = 16) (hb : z.1.length = 16) (ha2 : y.2.length < 1000000) (hb2 : z.2.length < 1000000) : PFn Try.prog False 60 [ctA y, ctA z] (iA (compareF y z)) := by
  refine pfn Try.func60 rfl (by kernel_rfl) 26 rfl _ rfl (Nat.le_of_ble_eq_true rfl) (fun X w0 => ?_)
  refine wSeq ?_
  refine wReg ?_
  refine sBox rfl rfl rfl rfl rfl (fun g2 => ?_)
  refine sBox rfl rfl rfl rfl rfl (fun g3 => ?_)
  refine sP rfl rfl rfl (pA rfl rfl) ?_
  refine lNil ?_
  refine wSeq ?_
  refine wDrawM 12 (by kernel_rfl) (by kernel_rfl) (fun _ => [.cells g2 55 (encCt y), .cells g3 55 (encCt z)]) [] (by kernel_rfl) rfl (fun m _ => rfl) ?_
  refine dwP rfl rfl rfl rfl rfl (fun k al => (pLdW 0 rfl rfl rfl ty55 (ctx_len ha))) ?_
  refine dwP rfl rfl rfl rfl rfl (fun k al => (pLdW 1 rfl rfl rfl ty55 (ctx_len hb))) ?_
  refine dwP rfl rfl rfl rfl rfl (fun k al => (p_call rfl (cmiss_p y z ha hb ha2 hb2) ⟨Sub.refl, Sub.refl, trivial⟩)) ?_
  refine dwP rfl rfl rfl rfl rfl (fun k al => (p_len_sl rfl rfl Try.underlying27)) ?_
  refine dwP rfl rfl rfl rfl rfl (fun k al => (p_icmp rfl rfl rfl (show _ = some (lk y z) from rfl))) ?_
  refine dwP rfl rfl rfl rfl rfl (fun k al => (pLdW 1 rfl rfl rfl ty55 (ctx_len hb))) ?_
  refine dwP rfl rfl rfl rfl rfl (fun k al => (pLdW 0 rfl rfl rfl ty55 (ctx_len ha))) ?_
  refine dwP rfl rfl rfl rfl rfl (fun k al => (p_call rfl (cmiss_p z y hb ha hb2 ha2) ⟨Sub.refl, Sub.refl, trivial⟩)) ?_
  refine dwP rfl rfl rfl rfl rfl (fun k al => (p_len_sl rfl rfl Try.underlying27)) ?_
  refine dwP rfl rfl rfl rfl rfl (fun k al => (p_icmp rfl rfl rfl (show _ = some (lk z y) from rfl))) ?_
  refine dwP rfl rfl rfl rfl rfl (fun k al => (pA rfl rfl)) ?_
  refine dwP rfl rfl rfl rfl rfl (fun k al => (pA rfl rfl)) ?_
  refine dwNil ?_
  refine lNil ?_
  refine wSeq ?_
  refine wBlock ?_
  refine wCut (fun L h => ∃ b0 : Bool, b0 = (lk y z && lk z y) ∧ L = [(5, bA (lk y z)), (6, bA (lk z y)), (17, bA b0)] ∧ h = [.cells g2 55 (encCt y), .cells g3 55 (encCt z)]) ?_ ?_
  · cases hb0 : (lk y z) with
    | true =>
      refine wReg ?_
      refine sP rfl rfl rfl (pM rfl rfl) ?_
      refine sP rfl rfl rfl (pM rfl rfl) ?_
      refine sG rfl rfl rfl rfl rfl (pM rfl rfl) ?_
      refine sP rfl rfl rfl (p_pick rfl rfl rfl) ?_
      refine sP rfl rfl rfl (pA rfl rfl) ?_
      refine lNil ?_
      exact ⟨_, [.cells g2 55 (encCt y), .cells g3 55 (encCt z)], [], ⟨_, (by exact rfl), rfl, rfl⟩, ⟨rfl, rfl, rfl, trivial⟩, rfl⟩
    | false =>
      refine wReg ?_
      refine sP rfl rfl rfl (pM rfl rfl) ?_
      refine sP rfl rfl rfl (pM rfl rfl) ?_
      refine sU rfl rfl rfl (by decide) rfl rfl ?_
      refine sP rfl rfl rfl (p_pick rfl rfl rfl) ?_
      refine sP rfl rfl rfl (pA rfl rfl) ?_
      refine lNil ?_
      exact ⟨_, [.cells g2 55 (encCt y), .cells g3 55 (encCt z)], [], ⟨_, (by exact rfl), rfl, rfl⟩, ⟨rfl, rfl, rfl, trivial⟩, rfl⟩
  · rintro L h ⟨b0, bb0, rfl, rfl⟩
    refine wCond rfl (fun hc1 => ?_) (fun hc1 => ?_)
    · refine wSeq ?_
      refine wReg ?_
      refine sP rfl rfl rfl (pA rfl rfl) ?_
      refine lNil ?_
      refine wRet ?_
      exact rgs1 (rg_tmp (gives_sub (Sub.of_eq (avI (cmp_2 (bb0.symm.trans hc1)).symm))))
    · refine wSeq ?_
      refine wReg ?_
      refine sP rfl rfl rfl (pM rfl rfl) ?_
      refine sP rfl rfl rfl (pA rfl rfl) ?_
      refine lNil ?_
      refine wCond rfl (fun hc2 => ?_) (fun hc2 => ?_)
      · refine wSeq ?_
        refine wReg ?_
        refine sP rfl rfl rfl (pA rfl rfl) ?_
        refine lNil ?_
        refine wRet ?_
        exact rgs1 (rg_tmp (gives_sub (Sub.of_eq (avI (cmp_l (bb0.symm.trans hc1) hc2).symm))))
      · refine wSeq ?_
        refine wReg ?_
        refine sP rfl rfl rfl (pM rfl rfl) ?_
        refine sP rfl rfl rfl (pA rfl rfl) ?_
        refine lNil ?_
        refine wCond rfl (fun hc3 => ?_) (fun hc3 => ?_)
        · refine wSeq ?_
          refine wReg ?_
          refine sP rfl rfl rfl (pA rfl rfl) ?_
          refine lNil ?_
          refine wRet ?_
          exact rgs1 (rg_tmp (gives_sub (Sub.of_eq (avI (cmp_m hc2 hc3).symm))))
        · refine wSkip ?_
          refine wSeq ?_
          refine wReg ?_
          refine sP rfl rfl rfl (pA rfl rfl) ?_
          refine lNil ?_
          refine wRet ?_
          exact rgs1 (rg_tmp (gives_sub (Sub.of_eq (avI (cmp_0 hc2 hc3).symm))))
set_option maxRecDepth 100000 in
theorem cput_p (c : CtxT) (hv : c.1.length = 16) (hn : c.2.length < 1000000) : PFn Try.prog False 35 [ctA c] (.tup [sA (cputS c), iA (cputE c)]) := by
  refine pfn Try.func35 rfl (by kernel_rfl) 41 rfl _ rfl (Nat.le_of_ble_eq_true rfl) (fun X w0 => ?_)
  refine wSeq ?_
  refine wReg ?_
  refine sBox rfl rfl rfl rfl rfl (fun g1 => ?_)
  refine sP rfl rfl rfl (pA rfl rfl) ?_
  refine sP rfl rfl rfl (pA rfl rfl) ?_
  refine lNil ?_
  refine wSeq ?_
  refine wSeq ?_
  refine wReg ?_
  refine sP rfl rfl rfl (pLdW 0 rfl rfl rfl ty55 (ctx_len hv)) ?_
  refine sP rfl rfl rfl (p_call rfl (ccheck_p c hv hn) ⟨Sub.refl, trivial⟩) ?_
  refine sP rfl rfl rfl (pA rfl rfl) ?_
  refine lNil ?_
  refine wSeq ?_
  refine wReg ?_
  refine sP rfl rfl rfl (pM rfl rfl) ?_
  refine sP rfl rfl rfl (p_icmp rfl rfl rfl rfl) ?_
  refine lNil ?_
  refine wCond rfl (fun hc1 => ?_) (fun hc1 => ?_)
  · refine wSeq ?_
    refine wReg ?_
    refine sP rfl rfl rfl (pM rfl rfl) ?_
    refine sP rfl rfl rfl (pA rfl rfl) ?_
    refine sP rfl rfl rfl (pA rfl rfl) ?_
    refine lNil ?_
    refine wRet ?_
    have h : ctxE c ≠ 0 := by simpa using hc1
    have he := cputE_1 h
    exact rgs2 (rg_tmp (gives_sub (Sub.of_eq (avS (cputS_e (by rw [he]; exact h)).symm)))) (rg_tmp (gives_sub (Sub.of_eq (avI he.symm))))
  · have hz : ctxE c = 0 := by simpa using hc1
    refine wSkip ?_
    refine wSeq ?_
    refine wReg ?_
    refine sP rfl rfl rfl (p_fieldAddr_own rfl rfl fl55_1 ty27 (by decide)) ?_
    refine sP rfl rfl rfl (pLdO1 0 rfl rfl rfl ty27 (ctx_C hv)) ?_
    refine sP rfl rfl rfl (p_call rfl (dput_p c.2 hn) ⟨Sub.refl, trivial⟩) ?_
    refine sP rfl rfl rfl (pMt rfl rfl) ?_
    refine sP rfl rfl rfl (p_extract rfl rfl rfl) ?_
    refine sP rfl rfl rfl (p_extract rfl rfl rfl) ?_
    refine sP rfl rfl rfl (pA rfl rfl) ?_
    refine sP rfl rfl rfl (pA rfl rfl) ?_
    refine lNil ?_
    refine wSeq ?_
    refine wSeq ?_
    refine wReg ?_
    refine sP rfl rfl rfl (pM rfl rfl) ?_
    refine sP rfl rfl rfl (p_icmp rfl rfl rfl rfl) ?_
    refine lNil ?_
    refine wCond rfl (fun hc2 => ?_) (fun hc2 => ?_)
    · refine wSeq ?_
      refine wReg ?_
      refine sP rfl rfl rfl (pM rfl rfl) ?_
      refine sP rfl rfl rfl (pA rfl rfl) ?_
      refine sP rfl rfl rfl (pA rfl rfl) ?_
      refine lNil ?_
      refine wRet ?_
      have h : putE c.2 ≠ 0 := by simpa using hc2
      have he := cputE_2 hv hz h
      exact rgs2 (rg_tmp (gives_sub (Sub.of_eq (avS (cputS_e (by rw [he]; exact h)).symm)))) (rg_tmp (gives_sub (Sub.of_eq (avI he.symm))))
    · have hz2 : putE c.2 = 0 := by simpa using hc2
      refine wSkip ?_
      refine wSeq ?_
      refine wReg ?_
      refine sP rfl rfl rfl (p_fieldAddr_own rfl rfl fl55_0 ty53 (by decide)) ?_
      refine sP rfl rfl rfl (pLdO 0 rfl rfl rfl ty53 (ctx_le hv) (ctx_V hv)) ?_
      refine sP rfl rfl rfl (p_call rfl (vput_p c.1 hv) ⟨Sub.refl, trivial⟩) ?_
      refine sP rfl rfl rfl (pMt rfl rfl) ?_
      refine sP rfl rfl rfl (p_extract rfl rfl rfl) ?_
      refine sP rfl rfl rfl (p_extract rfl rfl rfl) ?_
      refine sP rfl rfl rfl (pA rfl rfl) ?_
      refine sP rfl rfl rfl (pA rfl rfl) ?_
      refine lNil ?_
      refine wSeq ?_
      refine wReg ?_
      refine sP rfl rfl rfl (pM rfl rfl) ?_
      refine sP rfl rfl rfl (p_call rfl (text_p (putS c.2) (by have := putSD_sizeC c.2; omega)) ⟨Sub.refl, trivial⟩) ?_
      refine sP rfl rfl rfl (pMt rfl rfl) ?_
      refine sP rfl rfl rfl (p_extract rfl rfl rfl) ?_
      refine sP rfl rfl rfl (p_extract rfl rfl rfl) ?_
      refine sP rfl rfl rfl (pA rfl rfl) ?_
      refine sP rfl rfl rfl (pA rfl rfl) ?_
      refine lNil ?_
      refine wSeq ?_
      refine wSeq ?_
      refine wReg ?_
      refine sP rfl rfl rfl (pM rfl rfl) ?_
      refine sP rfl rfl rfl (p_icmp rfl rfl rfl rfl) ?_
      refine lNil ?_
      refine wCond rfl (fun hc3 => ?_) (fun hc3 => ?_)
      · refine wSeq ?_
        refine wReg ?_
        refine sP rfl rfl rfl (pM rfl rfl) ?_
        refine sP rfl rfl rfl (pA rfl rfl) ?_
        refine sP rfl rfl rfl (pA rfl rfl) ?_
        refine lNil ?_
        refine wRet ?_
        have h : txE (putS c.2) ≠ 0 := by simpa using hc3
        have he := cputE_3 hv hz hz2
        exact rgs2 (rg_tmp (gives_sub (Sub.of_eq (avS (cputS_e (by rw [he]; exact h)).symm)))) (rg_tmp (gives_sub (Sub.of_eq (avI he.symm))))
      · refine wSkip ?_
        refine wSeq ?_
        refine wReg ?_
        refine sP rfl rfl rfl (pM rfl rfl) ?_
        refine sP rfl rfl rfl (pM rfl rfl) ?_
        refine sP rfl rfl rfl (p_sadd rfl rfl rfl (by have := vputS_size hv; have := txS_size (putS c.2); have := putSD_sizeC c.2; omega)) ?_
        refine sP rfl rfl rfl (pA rfl rfl) ?_
        refine sP rfl rfl rfl (pA rfl rfl) ?_
        refine lNil ?_
        refine wRet ?_
        have h : txE (putS c.2) = 0 := by simpa using hc3
        have he := cputE_3 hv hz hz2
        exact rgs2 (rg_tmp (gives_sub (Sub.of_eq (avS (by rw [cputS_o (by rw [he, h]), ← vputS_o (ctx_vE hz)]))))) (rg_tmp (gives_sub (Sub.of_eq (avI (by rw [he, h])))))
end Go.Proofs.Ytmhkalalcmkpbaa

namespace Go.Proofs.Ytmhkalalcmkpbaa
open Go Go.RowKit
set_option linter.unusedVariables false
set_option linter.unusedSimpArgs false

def rV (s : ByteArray) : List Int := (rdV 16 (s, 0)).1
def rS (s : ByteArray) : ByteArray × Int := (rdV 16 (s, 0)).2
def tA (s : ByteArray) : ByteArray × (ByteArray × Int) := rdT (rS s)
theorem rV_eq (s : ByteArray) : (rdV 16 (s, 0)).1 = rV s := rfl
theorem rS_eq (s : ByteArray) : (rdV 16 (s, 0)).2 = rS s := rfl
theorem rV_len (s : ByteArray) : (rV s).length = 16 := rdV_len 16 _
theorem rS_size (s : ByteArray) : (rS s).1.size ≤ s.size := rdV_size 16 (s, 0)
theorem tA_text (s : ByteArray) : (tA s).1.size ≤ 65536 := rdT_text _
theorem creadE_t (s : ByteArray) : creadE s = if doneE (tA s).2 ≠ 0 then doneE (tA s).2 else if vE (rV s) ≠ 0 then vE (rV s) else if (readD (tA s).1).2 ≠ 0 then (readD (tA s).1).2 else ctxE (rV s, (readD (tA s).1).1) := rfl
theorem creadD_t (s : ByteArray) : creadD s = (rV s, (readD (tA s).1).1) := rfl
def cR0 (s : ByteArray) : Int := doneE (tA s).2
def cR1 (s : ByteArray) : Int := if cR0 s = 0 then vE (rV s) else cR0 s
def cR2 (s : ByteArray) : Int := if cR1 s = 0 then (readD (tA s).1).2 else cR1 s
def cR3 (s : ByteArray) : Int := if cR2 s = 0 then ctxE (rV s, (readD (tA s).1).1) else cR2 s
theorem cR_end (s : ByteArray) : cR3 s = creadE s := by
  rw [creadE_t]
  unfold cR3 cR2 cR1 cR0
  by_cases h0 : doneE (tA s).2 = 0 <;> by_cases h1 : vE (rV s) = 0 <;> by_cases h2 : (readD (tA s).1).2 = 0 <;> simp [h0, h1, h2]
theorem creadT_e {s : ByteArray} (h : creadE s ≠ 0) : creadT s = zeroC := if_pos h
theorem creadT_o {s : ByteArray} (h : creadE s = 0) : creadT s = (rV s, (readD (tA s).1).1) := by unfold creadT; rw [if_neg (by simpa using h), creadD_t]
theorem zeroC_sub : Sub (.agg (iL zeroV ++ [.x (.slice none 0 0)])) (ctA zeroC) := Sub.agg ⟨Sub.refl, Sub.refl, Sub.refl, Sub.refl, Sub.refl, Sub.refl, Sub.refl, Sub.refl, Sub.refl, Sub.refl, Sub.refl, Sub.refl, Sub.refl, Sub.refl, Sub.refl, Sub.refl, Sub.nil_, trivial⟩
attribute [local irreducible] rV rS

set_option maxRecDepth 100000 in
theorem cread_p (s : ByteArray) (hs : s.size < 9223372036854775807) : PFn Try.prog False 37 [sA s] (.tup [ctA (creadT s), iA (creadE s)]) := by
  refine pfn Try.func37 rfl (by kernel_rfl) 46 rfl _ rfl (Nat.le_of_ble_eq_true rfl) (fun X w0 => ?_)
  have hVl := rV_len s
  refine wSeq ?_
  refine wReg ?_
  refine sAlloc rfl rfl rfl rfl ze55 (fun g2 => ?_)
  refine sP rfl rfl rfl (pA rfl rfl) ?_
  refine lNil ?_
  refine wSeq ?_
  refine wReg ?_
  refine sP rfl rfl rfl (pM rfl rfl) ?_
  refine sM0 rfl rfl rfl rfl (new_m s) ⟨Sub.refl, trivial⟩ (fun _ _ ⟨_, h⟩ => h.one) (fun av q hr => ?_)
  obtain ⟨p, hr⟩ := hr
  obtain ⟨rfl, rfl⟩ := hr.pq
  refine sP rfl rfl rfl (pA rfl rfl) ?_
  refine lNil ?_
  refine wSeq ?_
  refine wReg ?_
  refine sAlloc rfl rfl rfl rfl ze55 (fun g5 => ?_)
  refine lNil ?_
  refine wSeq ?_
  refine wSeq ?_
  refine wReg ?_
  refine sP rfl rfl rfl (pM rfl rfl) ?_
  refine lNil ?_
  refine wBlock ?_
  refine wLoop (fun mm L h => ∃ i, mm = 16 - i ∧ i ≤ 16 ∧ L = [(2, nP g2), (4, nP p), (5, nP g5), (11, iA (i : Nat))] ∧ h = [.cells g2 55 (iL zeroV ++ [.x (.slice none 0 0)]), rdO p (rdV i (s, 0)).2, .cells g5 55 (iL (vpad (s, 0) i) ++ [AV.x (.slice none 0 0)])]) ⟨_, _, [.cells g2 55 (iL zeroV ++ [.x (.slice none 0 0)]), rdO p (rdV 0 (s, 0)).2, .cells g5 55 (iL (vpad (s, 0) 0) ++ [AV.x (.slice none 0 0)])], _, ⟨0, rfl, Nat.zero_le _, rfl, rfl⟩, ⟨rfl, rfl, rfl, rfl, trivial⟩, rfl⟩ ?_
  rintro mm L h ⟨i, rfl, hi, rfl, rfl⟩
  refine wSeq ?_
  refine wReg ?_
  refine sP rfl rfl rfl (p_icmp rfl rfl rfl rfl) ?_
  refine lNil ?_
  refine wSeq ?_
  refine wCond rfl (fun hc1 => ?_) (fun hc1 => ?_)
  · have hi16 : i < 16 := by have h := hc1; simp at h; omega
    refine wSkip ?_
    refine wSeq ?_
    refine wBlock ?_
    refine wSeq ?_
    refine wReg ?_
    refine sP rfl rfl rfl (pM rfl rfl) ?_
    refine sP rfl rfl rfl (pA rfl rfl) ?_
    refine lNil ?_
    refine wReg ?_
    refine sP rfl rfl rfl (pM rfl rfl) ?_
    refine sP rfl rfl rfl (pM rfl rfl) ?_
    refine sM1 1 rfl rfl rfl (rdnum_m p (rdV i (s, 0)).2 (Nat.lt_of_le_of_lt (rdV_size i (s, 0)) hs)) ⟨Sub.refl, trivial⟩ (fun _ _ h => h.one) (fun av q hr => ?_)
    obtain ⟨rfl, rfl⟩ := hr.pq
    refine sP rfl rfl rfl (p_fieldAddr_own rfl rfl fl55_0 ty53 (by decide)) ?_
    refine sP rfl rfl rfl (p_indexAddr_arr rfl rfl Try.underlying53 ty3 rfl (i := i) rfl hi16) ?_
    refine sStore1 2 rfl rfl rfl rfl rfl ty3 rfl rfl (by rw [ctx_len (vpad_len (s, 0) hi)]; omega) ?_
    refine lNil ?_
    refine wReg ?_
    refine sP rfl rfl rfl (p_iar rfl rfl rfl rfl) ?_
    refine sP rfl rfl rfl (pM rfl rfl) ?_
    refine lNil ?_
    refine ⟨_, _, [.cells g2 55 (iL zeroV ++ [.x (.slice none 0 0)]), rdO p (rdV (i + 1) (s, 0)).2, .cells g5 55 (iL (vpad (s, 0) (i + 1)) ++ [AV.x (.slice none 0 0)])], [], ?_, ⟨i + 1, rfl, hi16, rfl, rfl⟩, ⟨rfl, rfl, rfl, avI (wrapI (by omega) (by omega)), trivial⟩, ?_⟩
    · omega
    · show [_, _, HObj.cells g5 _ ((iL (vpad (s, 0) i) ++ [AV.x (.slice none 0 0)]).set (0 + i * 1) (iA ((rdN (rdV i (s, 0)).2).1 : Nat)))] = _
      rw [ctx_set (by rw [vpad_len (s, 0) hi]; exact hi16), vpad_set (s, 0) hi16]
      rfl
  · have hge : i = 16 := by have h := hc1; simp at h; omega
    subst hge
    refine wExit ?_
    refine wKeep [(2, nP g2), (4, nP p), (5, nP g5)] [.cells g2 55 (iL zeroV ++ [.x (.slice none 0 0)]), rdO p (rS s), .cells g5 55 (iL (rV s) ++ [AV.x (.slice none 0 0)])] [] ⟨rfl, rfl, rfl, trivial⟩ (by rw [vpad_all, rV_eq, rS_eq]; rfl) ?_
    refine wSeq ?_
    refine wReg ?_
    refine sP rfl rfl rfl (pM rfl rfl) ?_
    refine sM1 1 rfl rfl rfl (rdtext_m p (rS s) (Nat.lt_of_le_of_lt (rS_size s) hs)) ⟨Sub.refl, trivial⟩ (fun _ _ h => h.one) (fun av q hr => ?_)
    obtain ⟨rfl, rfl⟩ := hr.pq
    refine sP rfl rfl rfl (pA rfl rfl) ?_
    refine lNil ?_
    refine wSeq ?_
    refine wReg ?_
    refine sP rfl rfl rfl (pM rfl rfl) ?_
    refine sM1 1 rfl rfl rfl (rddone_m p (tA s).2) ⟨Sub.refl, trivial⟩ (fun _ _ h => h.one) (fun av q hr => ?_)
    obtain ⟨rfl, rfl⟩ := hr.pq
    refine sP rfl rfl rfl (pA rfl rfl) ?_
    refine lNil ?_
    refine wCut (fun L h => ∃ e, e = cR1 s ∧ L = [(2, nP g2), (5, nP g5), (7, sA (tA s).1), (8, iA e)] ∧ h = [.cells g2 55 (iL zeroV ++ [.x (.slice none 0 0)]), rdO p (tA s).2, .cells g5 55 (iL (rV s) ++ [AV.x (.slice none 0 0)])]) ?_ ?_
    · refine wSeq ?_
      refine wReg ?_
      refine sP rfl rfl rfl (pM rfl rfl) ?_
      refine sP rfl rfl rfl (p_icmp rfl rfl rfl rfl) ?_
      refine lNil ?_
      refine wCond rfl (fun hc1 => ?_) (fun hc1 => ?_)
      · refine wReg ?_
        refine sP rfl rfl rfl (p_fieldAddr_own rfl rfl fl55_0 ty53 (by decide)) ?_
        refine sP rfl rfl rfl (pLdO 2 rfl rfl rfl ty53 (ctx_le hVl) (ctx_V hVl)) ?_
        refine sP rfl rfl rfl (p_call rfl (vcheck_p (rV s) hVl) ⟨Sub.refl, trivial⟩) ?_
        refine sP rfl rfl rfl (pA rfl rfl) ?_
        refine lNil ?_
        have k0 : cR0 s = 0 := by show doneE (tA s).2 = 0; simpa using hc1
        exact ⟨_, [.cells g2 55 (iL zeroV ++ [.x (.slice none 0 0)]), rdO p (tA s).2, .cells g5 55 (iL (rV s) ++ [AV.x (.slice none 0 0)])], [], ⟨vE (rV s), (if_pos k0).symm, rfl, rfl⟩, ⟨rfl, rfl, rfl, rfl, trivial⟩, rfl⟩
      · refine wSkip ?_
        have k0 : cR0 s ≠ 0 := by show doneE (tA s).2 ≠ 0; simpa using hc1
        exact ⟨_, [.cells g2 55 (iL zeroV ++ [.x (.slice none 0 0)]), rdO p (tA s).2, .cells g5 55 (iL (rV s) ++ [AV.x (.slice none 0 0)])], [], ⟨cR0 s, (if_neg k0).symm, rfl, rfl⟩, ⟨rfl, rfl, rfl, rfl, trivial⟩, rfl⟩
    · rintro L h ⟨e, he, rfl, rfl⟩
      refine wCut (fun L h => ∃ e a, e = cR2 s ∧ (e = 0 → a = slD (readD (tA s).1).1) ∧ L = [(2, nP g2), (5, nP g5), (7, sA (tA s).1), (8, iA e)] ∧ h = [.cells g2 55 (iL zeroV ++ [.x (.slice none 0 0)]), rdO p (tA s).2, .cells g5 55 (iL (rV s) ++ [a])]) ?_ ?_
      · refine wSeq ?_
        refine wReg ?_
        refine sP rfl rfl rfl (pM rfl rfl) ?_
        refine sP rfl rfl rfl (p_icmp rfl rfl rfl rfl) ?_
        refine lNil ?_
        refine wCond rfl (fun hc2 => ?_) (fun hc2 => ?_)
        · refine wReg ?_
          refine sP rfl rfl rfl (pM rfl rfl) ?_
          refine sP rfl rfl rfl (p_call rfl (dread_p (tA s).1 (by have := tA_text s; omega)) ⟨Sub.refl, trivial⟩) ?_
          refine sP rfl rfl rfl (pMt rfl rfl) ?_
          refine sP rfl rfl rfl (p_extract rfl rfl rfl) ?_
          refine sP rfl rfl rfl (p_extract rfl rfl rfl) ?_
          refine sP rfl rfl rfl (p_fieldAddr_own rfl rfl fl55_1 ty27 (by decide)) ?_
          refine sStore1 2 rfl rfl rfl rfl rfl ty27 rfl rfl (by rw [ctx_len hVl]; exact Nat.le_refl _) ?_
          refine sP rfl rfl rfl (pA rfl rfl) ?_
          refine lNil ?_
          have k0 : cR1 s = 0 := by rw [← he]; simpa using hc2
          refine ⟨_, [.cells g2 55 (iL zeroV ++ [.x (.slice none 0 0)]), rdO p (tA s).2, .cells g5 55 (iL (rV s) ++ [slD (readD (tA s).1).1])], [], ⟨(readD (tA s).1).2, slD (readD (tA s).1).1, (if_pos k0).symm, fun _ => rfl, rfl, rfl⟩, ⟨rfl, rfl, rfl, rfl, trivial⟩, ?_⟩
          show [_, _, HObj.cells g5 _ ((iL (rV s) ++ [AV.x (.slice none 0 0)]).set 16 (slD (readD (tA s).1).1))] = _
          rw [ctx_setC hVl]
          rfl
        · refine wSkip ?_
          have k0 : cR1 s ≠ 0 := by rw [← he]; simpa using hc2
          exact ⟨_, [.cells g2 55 (iL zeroV ++ [.x (.slice none 0 0)]), rdO p (tA s).2, .cells g5 55 (iL (rV s) ++ [AV.x (.slice none 0 0)])], [], ⟨e, AV.x (.slice none 0 0), he.trans (if_neg k0).symm, fun h => absurd (he.symm.trans h) k0, rfl, rfl⟩, ⟨rfl, rfl, rfl, rfl, trivial⟩, rfl⟩
      · rintro L h ⟨e, a, he, hae, rfl, rfl⟩
        refine wCut (fun L h => ∃ e a, e = cR3 s ∧ (e = 0 → a = slD (readD (tA s).1).1) ∧ L = [(2, nP g2), (5, nP g5), (7, sA (tA s).1), (8, iA e)] ∧ h = [.cells g2 55 (iL zeroV ++ [.x (.slice none 0 0)]), rdO p (tA s).2, .cells g5 55 (iL (rV s) ++ [a])]) ?_ ?_
        · refine wSeq ?_
          refine wReg ?_
          refine sP rfl rfl rfl (pM rfl rfl) ?_
          refine sP rfl rfl rfl (p_icmp rfl rfl rfl rfl) ?_
          refine lNil ?_
          refine wCond rfl (fun hc3 => ?_) (fun hc3 => ?_)
          · have k0 : cR2 s = 0 := by rw [← he]; simpa using hc3
            obtain rfl := hae (he.trans k0)
            refine wReg ?_
            refine sP rfl rfl rfl (pLdW 2 rfl rfl rfl ty55 (ctx_len hVl)) ?_
            refine sP rfl rfl rfl (p_call rfl (ccheck_p (rV s, (readD (tA s).1).1) hVl (by have := readD_lenC (tA s).1; show (readD (tA s).1).1.length < 1000000; omega)) ⟨Sub.refl, trivial⟩) ?_
            refine sP rfl rfl rfl (pA rfl rfl) ?_
            refine lNil ?_
            exact ⟨_, [.cells g2 55 (iL zeroV ++ [.x (.slice none 0 0)]), rdO p (tA s).2, .cells g5 55 (iL (rV s) ++ [slD (readD (tA s).1).1])], [], ⟨ctxE (rV s, (readD (tA s).1).1), slD (readD (tA s).1).1, (if_pos k0).symm, fun _ => rfl, rfl, rfl⟩, ⟨rfl, rfl, rfl, rfl, trivial⟩, rfl⟩
          · refine wSkip ?_
            have k0 : cR2 s ≠ 0 := by rw [← he]; simpa using hc3
            exact ⟨_, [.cells g2 55 (iL zeroV ++ [.x (.slice none 0 0)]), rdO p (tA s).2, .cells g5 55 (iL (rV s) ++ [a])], [], ⟨e, a, he.trans (if_neg k0).symm, fun h => absurd (he.symm.trans h) k0, rfl, rfl⟩, ⟨rfl, rfl, rfl, rfl, trivial⟩, rfl⟩
        · rintro L h ⟨e, a, he, hae, rfl, rfl⟩
          refine wSeq ?_
          refine wSeq ?_
          refine wReg ?_
          refine sP rfl rfl rfl (pM rfl rfl) ?_
          refine sP rfl rfl rfl (p_icmp rfl rfl rfl rfl) ?_
          refine lNil ?_
          refine wCond rfl (fun hc4 => ?_) (fun hc4 => ?_)
          · refine wSeq ?_
            refine wReg ?_
            refine sP rfl rfl rfl (p_build (res := (iL zeroV ++ [.x (.slice none 0 0)])) rfl ze55 pl55 rfl rfl) ?_
            refine sP rfl rfl rfl (pM rfl rfl) ?_
            refine sStore 0 rfl rfl rfl rfl rfl ty55 rfl rfl rfl (Nat.le_of_ble_eq_true rfl) ?_
            refine sP rfl rfl rfl (pA rfl rfl) ?_
            refine lNil ?_
            refine wRet ?_
            have k3 : creadE s ≠ 0 := by rw [← cR_end, ← he]; simpa using hc4
            rw [creadT_e k3]
            exact rgs2 (rg_cell rfl (List.mem_of_getElem? (i := 0) rfl) ty55 (.inl ⟨rfl, Nat.le_refl _, rfl⟩) (gives_sub zeroC_sub)) (rg_tmp (gives_sub (Sub.of_eq (avI (by rw [← cR_end, ← he])))))
          · refine wSkip ?_
            obtain rfl := hae (by simpa using hc4)
            refine wSeq ?_
            refine wReg ?_
            refine sP rfl rfl rfl (pLdW 2 rfl rfl rfl ty55 (ctx_len hVl)) ?_
            refine sStore 0 rfl rfl rfl rfl rfl ty55 rfl (ctx_ones' (c := (rV s, (readD (tA s).1).1)) hVl) (ctx_len' (c := (rV s, (readD (tA s).1).1)) hVl) (Nat.le_of_ble_eq_true rfl) ?_
            refine sP rfl rfl rfl (pA rfl rfl) ?_
            refine lNil ?_
            refine wRet ?_
            have k3 : creadE s = 0 := by rw [← cR_end, ← he]; simpa using hc4
            rw [creadT_o k3]
            have hsp : spl (iL zeroV ++ [.x (.slice none 0 0)]) 0 (encCt (rV s, (readD (tA s).1).1)) = (encCt (rV s, (readD (tA s).1).1)) := ctx_spl rfl (ctx_len' (c := (rV s, (readD (tA s).1).1)) hVl)
            exact rgs2 (rg_cell rfl (List.mem_of_getElem? (i := 0) rfl) ty55 (.inl ⟨rfl, by show 17 ≤ (spl (iL zeroV ++ [.x (.slice none 0 0)]) 0 (encCt (rV s, (readD (tA s).1).1))).length; rw [hsp]; exact Nat.le_of_eq (ctx_len' (c := (rV s, (readD (tA s).1).1)) hVl).symm, rfl⟩) (gives_sub (Sub.of_eq (by show AV.agg ((spl (iL zeroV ++ [.x (.slice none 0 0)]) 0 (encCt (rV s, (readD (tA s).1).1))).take 17) = _; rw [hsp]; exact congrArg AV.agg (List.take_of_length_le (Nat.le_of_eq (ctx_len' (c := (rV s, (readD (tA s).1).1)) hVl))))))) (rg_tmp (gives_sub (Sub.of_eq (avI k3.symm))))
end Go.Proofs.Ytmhkalalcmkpbaa

namespace Go.Proofs.Ytmhkalalcmkpbaa
open Go Go.RowKit
set_option linter.unusedVariables false
set_option linter.unusedSimpArgs false

theorem rdsame_is {a b : List (Int × Int)} {r : Bool} (h : decide (a = b) = r) (h1 : a.length < 1000000) (h2 : b.length < 1000000) : PFn Try.prog False 57 [slD a, slD b] (bA r) := h ▸ rdsame_p a b h1 h2
def xV : List Int := [2, 0, 0, 0, 0, 0, 0, 0, 0, 0, 0, 0, 0, 0, 0, 0]
def xC : CtxT := (xV, [(1, 3)])
def bC : CtxT := (zeroV, [(0, 1)])
def xL : List (Int × Int) := [(0, 2), (0, 1), (1, 3)]
def mL : List (Int × Int) := [(0, 1), (0, 2), (1, 3)]
theorem aw13_add : addF zeroC xL = xC := by kernel_rfl
theorem aw13_put : cputE xC = 0 := by kernel_rfl
theorem aw13_bad : cputE bC = 5 := by kernel_rfl
theorem aw13_h1 : hasC xC (0, 1) = true := by kernel_rfl
theorem aw13_h2 : hasC xC (1, 1) = false := by kernel_rfl
theorem aw13_miss : missF zeroC xC = mL := by kernel_rfl
theorem aw13_cmp : compareF xC zeroC = 1 := by kernel_rfl
theorem cputS_size {c : CtxT} (hv : c.1.length = 16) (hn : c.2.length < 1000000) : (cputS c).size < 9223372036854775807 := by
  unfold cputS
  split
  · decide
  · rw [ByteArray.size_append]
    have h := cat_size (k := 8) (c.1.map numS) fun x hx => by obtain ⟨n, _, rfl⟩ := List.mem_map.1 hx; exact numS_size n
    rw [List.length_map] at h
    have := txS_size (putS c.2); have := putSD_sizeC c.2; omega
theorem cadd_is {c : CtxT} {l : List (Int × Int)} {r : CtxT} (hv : c.1.length = 16) (hn : c.2.length < 500000) (hl : l.length < 500000) (h : addF c l = r) : PFn Try.prog False 39 [ctA c, slD l] (ctA r) := h ▸ cadd_p c l hv hn hl
theorem cput_is {c : CtxT} {e : Int} (hv : c.1.length = 16) (hn : c.2.length < 1000000) (h : cputE c = e) : PFn Try.prog False 35 [ctA c] (.tup [sA (cputS c), iA e]) := h ▸ cput_p c hv hn
theorem cread_is {s : ByteArray} {c : CtxT} {e : Int} (hs : s.size < 9223372036854775807) (h : creadT s = c) (he : creadE s = e) : PFn Try.prog False 37 [sA s] (.tup [ctA c, iA e]) := h ▸ he ▸ cread_p s hs
theorem chas_is {c : CtxT} {d : Int × Int} {b : Bool} (hv : c.1.length = 16) (hn : c.2.length < 1000000) (h : hasC c d = b) : PFn Try.prog False 40 [ctA c, dA d] (bA b) := h ▸ chas_p c d hv hn
theorem cmiss_is {y z : CtxT} {l : List (Int × Int)} (ha : y.1.length = 16) (hb0 : z.1.length = 16) (ha2 : y.2.length < 1000000) (hb2 : z.2.length < 1000000) (h : missF y z = l) : PFn Try.prog False 58 [ctA y, ctA z] (slD l) := h ▸ cmiss_p y z ha hb0 ha2 hb2
theorem ccompare_is {y z : CtxT} {n : Int} (ha : y.1.length = 16) (hb0 : z.1.length = 16) (ha2 : y.2.length < 1000000) (hb2 : z.2.length < 1000000) (h : compareF y z = n) : PFn Try.prog False 60 [ctA y, ctA z] (iA n) := h ▸ ccompare_p y z ha hb0 ha2 hb2

set_option maxRecDepth 100000 in
theorem rcsame_p (y z : CtxT) (ha : y.1.length = 16) (hb : z.1.length = 16) (ha2 : y.2.length < 1000000) (hb2 : z.2.length < 1000000) : PFn Try.prog False 28 [ctA y, ctA z] (bA (decide (y = z))) := by
  refine pfn Try.func28 rfl (by kernel_rfl) 17 rfl _ rfl (Nat.le_of_ble_eq_true rfl) (fun X w0 => ?_)
  refine wSeq ?_
  refine wReg ?_
  refine sBox rfl rfl rfl rfl rfl (fun g2 => ?_)
  refine sBox rfl rfl rfl rfl rfl (fun g3 => ?_)
  refine sP rfl rfl rfl (pA rfl rfl) ?_
  refine lNil ?_
  refine wCut (fun L h => ∃ b : Bool, b = (decide (y = z)) ∧ L = [(2, .x (.pointer (some ⟨g2, 0, none⟩))), (4, bA b)] ∧ h = []) ?_ ?_
  · rcases eqC_cases y z with ⟨e1, hbv⟩ | ⟨e1, e2, hbv⟩ | ⟨e1, e2, hbv⟩
    · refine wReg ?_
      refine sP rfl rfl rfl (p_fieldAddr_own rfl rfl fl55_0 ty53 (by decide)) ?_
      refine sP rfl rfl rfl (pLdO 0 rfl rfl rfl ty53 (ctx_le ha) (ctx_V ha)) ?_
      refine sP rfl rfl rfl (p_fieldAddr_own rfl rfl fl55_0 ty53 (by decide)) ?_
      refine sP rfl rfl rfl (pLdO 1 rfl rfl rfl ty53 (ctx_le hb) (ctx_V hb)) ?_
      refine sP rfl rfl rfl (p_eqs (r := false) rfl rfl rfl (exL_ints _) (exL_ints _) guardV (fun w => eqV_f ha hb e1)) ?_
      refine sP rfl rfl rfl (pM rfl rfl) ?_
      refine sUx rfl rfl rfl (by decide) rfl rfl ?_
      refine sUx rfl rfl rfl (by decide) rfl rfl ?_
      refine sUx rfl rfl rfl (by decide) rfl rfl ?_
      refine sUx rfl rfl rfl (by decide) rfl rfl ?_
      refine sUx rfl rfl rfl (by decide) rfl rfl ?_
      refine sP rfl rfl rfl (p_pick rfl rfl rfl) ?_
      refine sP rfl rfl rfl (pA rfl rfl) ?_
      refine lNil ?_
      exact ⟨_, [], _, ⟨_, (by exact hbv.symm), rfl, rfl⟩, ⟨rfl, rfl, trivial⟩, rfl⟩
    · refine wReg ?_
      refine sP rfl rfl rfl (p_fieldAddr_own rfl rfl fl55_0 ty53 (by decide)) ?_
      refine sP rfl rfl rfl (pLdO 0 rfl rfl rfl ty53 (ctx_le ha) (ctx_V ha)) ?_
      refine sP rfl rfl rfl (p_fieldAddr_own rfl rfl fl55_0 ty53 (by decide)) ?_
      refine sP rfl rfl rfl (pLdO 1 rfl rfl rfl ty53 (ctx_le hb) (ctx_V hb)) ?_
      refine sP rfl rfl rfl (p_eqs (r := true) rfl rfl rfl (exL_ints _) (exL_ints _) guardV (fun w => eqV_t ha hb e1)) ?_
      refine sP rfl rfl rfl (pM rfl rfl) ?_
      refine sG rfl rfl rfl rfl rfl (p_fieldAddr_own rfl rfl fl55_1 ty27 (by decide)) ?_
      refine sG rfl rfl rfl rfl rfl (pLdO1 0 rfl rfl rfl ty27 (ctx_C ha)) ?_
      refine sG rfl rfl rfl rfl rfl (p_fieldAddr_own rfl rfl fl55_1 ty27 (by decide)) ?_
      refine sG rfl rfl rfl rfl rfl (pLdO1 1 rfl rfl rfl ty27 (ctx_C hb)) ?_
      refine sG rfl rfl rfl rfl rfl (p_call rfl (rdsame_is (decide_eq_false e2) ha2 hb2) ⟨Sub.refl, Sub.refl, trivial⟩) ?_
      refine sP rfl rfl rfl (p_pick rfl rfl rfl) ?_
      refine sP rfl rfl rfl (pA rfl rfl) ?_
      refine lNil ?_
      exact ⟨_, [], _, ⟨_, (by exact hbv.symm), rfl, rfl⟩, ⟨rfl, rfl, trivial⟩, rfl⟩
    · refine wReg ?_
      refine sP rfl rfl rfl (p_fieldAddr_own rfl rfl fl55_0 ty53 (by decide)) ?_
      refine sP rfl rfl rfl (pLdO 0 rfl rfl rfl ty53 (ctx_le ha) (ctx_V ha)) ?_
      refine sP rfl rfl rfl (p_fieldAddr_own rfl rfl fl55_0 ty53 (by decide)) ?_
      refine sP rfl rfl rfl (pLdO 1 rfl rfl rfl ty53 (ctx_le hb) (ctx_V hb)) ?_
      refine sP rfl rfl rfl (p_eqs (r := true) rfl rfl rfl (exL_ints _) (exL_ints _) guardV (fun w => eqV_t ha hb e1)) ?_
      refine sP rfl rfl rfl (pM rfl rfl) ?_
      refine sG rfl rfl rfl rfl rfl (p_fieldAddr_own rfl rfl fl55_1 ty27 (by decide)) ?_
      refine sG rfl rfl rfl rfl rfl (pLdO1 0 rfl rfl rfl ty27 (ctx_C ha)) ?_
      refine sG rfl rfl rfl rfl rfl (p_fieldAddr_own rfl rfl fl55_1 ty27 (by decide)) ?_
      refine sG rfl rfl rfl rfl rfl (pLdO1 1 rfl rfl rfl ty27 (ctx_C hb)) ?_
      refine sG rfl rfl rfl rfl rfl (p_call rfl (rdsame_is (decide_eq_true e2) ha2 hb2) ⟨Sub.refl, Sub.refl, trivial⟩) ?_
      refine sP rfl rfl rfl (p_pick rfl rfl rfl) ?_
      refine sP rfl rfl rfl (pA rfl rfl) ?_
      refine lNil ?_
      exact ⟨_, [], _, ⟨_, (by exact hbv.symm), rfl, rfl⟩, ⟨rfl, rfl, trivial⟩, rfl⟩
  · rintro L h ⟨bb, hbb, rfl, rfl⟩
    refine wRet ?_
    exact rgs1 (rg_tmp (gives_sub (Sub.of_eq (avB hbb))))
theorem rcsame_is {y z : CtxT} {b : Bool} (ha : y.1.length = 16) (hb : z.1.length = 16) (ha2 : y.2.length < 1000000) (hb2 : z.2.length < 1000000) (h : decide (y = z) = b) : PFn Try.prog False 28 [ctA y, ctA z] (bA b) := h ▸ rcsame_p y z ha hb ha2 hb2

def fewC (c : CtxT) : Bool := decide ((c.2.length : Int) ≤ 40)

set_option maxRecDepth 100000 in
theorem few13_p (c : CtxT) (hv : c.1.length = 16) : PFn Try.prog False 25 [ctA c] (bA (fewC c)) := by
  refine pfn Try.func25 rfl (by kernel_rfl) 7 rfl _ rfl (Nat.le_of_ble_eq_true rfl) (fun X w0 => ?_)
  refine wSeq ?_
  refine wReg ?_
  refine sBox rfl rfl rfl rfl rfl (fun g1 => ?_)
  refine sP rfl rfl rfl (pA rfl rfl) ?_
  refine lNil ?_
  refine wSeq ?_
  refine wReg ?_
  refine sP rfl rfl rfl (p_fieldAddr_own rfl rfl fl55_1 ty27 (by decide)) ?_
  refine sP rfl rfl rfl (pLdO1 0 rfl rfl rfl ty27 (ctx_C hv)) ?_
  refine sP rfl rfl rfl (p_len_sl rfl rfl Try.underlying27) ?_
  refine sP rfl rfl rfl (p_icmp rfl rfl rfl rfl) ?_
  refine sP rfl rfl rfl (pA rfl rfl) ?_
  refine lNil ?_
  refine wRet ?_
  exact rgs1 (rg_tmp (gives_sub (Sub.of_eq (rfl))))
set_option maxHeartbeats 1000000 in
set_option maxRecDepth 100000 in
theorem awake13_p : PFn Try.prog False 34 [] (bA true) := by
  refine pfn Try.func34 rfl (by kernel_rfl) 81 rfl _ rfl (Nat.le_of_ble_eq_true rfl) (fun X w0 => ?_)
  refine wSeq ?_
  refine wReg ?_
  refine sP rfl rfl rfl (pA rfl rfl) ?_
  refine lNil ?_
  refine wSeq ?_
  refine wReg ?_
  refine sP rfl rfl rfl (p_build (res := (iL zeroV ++ [.x (.slice none 0 0)])) rfl ze55 pl55 rfl rfl) ?_
  refine sP rfl rfl rfl (p_build (res := [iA 0, iA 2]) rfl ze23 pl23 rfl rfl) ?_
  refine sP rfl rfl rfl (p_build (res := [iA 0, iA 1]) rfl ze23 pl23 rfl rfl) ?_
  refine sP rfl rfl rfl (p_build (res := [iA 1, iA 3]) rfl ze23 pl23 rfl rfl) ?_
  refine sP rfl rfl rfl (p_buildSlice (res := (xL : List (Int × Int)).flatMap encA) rfl ze23 Try.underlying27 ty23 (by decide) (by decide) rfl rfl rfl) ?_
  refine sP rfl rfl rfl (p_call rfl (cadd_is (c := zeroC) (l := xL) rfl (by decide) (by decide) aw13_add) ⟨zeroC_sub, Sub.refl, trivial⟩) ?_
  refine sAlloc rfl rfl rfl rfl ze55 (fun g1 => ?_)
  refine sStore 0 rfl rfl rfl rfl rfl ty55 rfl rfl rfl (Nat.le_of_ble_eq_true rfl) ?_
  refine lNil ?_
  refine wSeq ?_
  refine wReg ?_
  refine sP rfl rfl rfl (pLdW 0 rfl rfl rfl ty55 rfl) ?_
  refine sP rfl rfl rfl (p_call rfl (cput_is (c := xC) rfl (by decide) aw13_put) ⟨Sub.refl, trivial⟩) ?_
  refine sP rfl rfl rfl (pMt rfl rfl) ?_
  refine sP rfl rfl rfl (p_extract rfl rfl rfl) ?_
  refine sP rfl rfl rfl (p_extract rfl rfl rfl) ?_
  refine sP rfl rfl rfl (pA rfl rfl) ?_
  refine sP rfl rfl rfl (pA rfl rfl) ?_
  refine lNil ?_
  refine wSeq ?_
  refine wReg ?_
  refine sP rfl rfl rfl (pM rfl rfl) ?_
  refine sP rfl rfl rfl (p_call rfl (cread_is (s := cputS xC) (cputS_size rfl (by decide)) (cread_put (c := xC) rfl aw13_put).2 (cread_put (c := xC) rfl aw13_put).1) ⟨Sub.refl, trivial⟩) ?_
  refine sP rfl rfl rfl (pMt rfl rfl) ?_
  refine sP rfl rfl rfl (p_extract rfl rfl rfl) ?_
  refine sP rfl rfl rfl (p_extract rfl rfl rfl) ?_
  refine sAlloc rfl rfl rfl rfl ze55 (fun g4 => ?_)
  refine sStore 1 rfl rfl rfl rfl rfl ty55 rfl rfl rfl (Nat.le_of_ble_eq_true rfl) ?_
  refine sP rfl rfl rfl (pA rfl rfl) ?_
  refine lNil ?_
  refine wSeq ?_
  refine wReg ?_
  refine sP rfl rfl rfl (p_build (res := [iA 0, iA 1]) rfl ze23 pl23 rfl rfl) ?_
  refine sP rfl rfl rfl (p_buildSlice (res := ([(0, 1)] : List (Int × Int)).flatMap encA) rfl ze23 Try.underlying27 ty23 (by decide) (by decide) rfl rfl rfl) ?_
  refine sP rfl rfl rfl (p_build (res := (encCt bC)) rfl ze55 pl55 rfl rfl) ?_
  refine sP rfl rfl rfl (p_call rfl (cput_is (c := bC) rfl (by decide) aw13_bad) ⟨Sub.refl, trivial⟩) ?_
  refine sP rfl rfl rfl (pMt rfl rfl) ?_
  refine sP rfl rfl rfl (p_extract rfl rfl rfl) ?_
  refine sP rfl rfl rfl (p_extract rfl rfl rfl) ?_
  refine sP rfl rfl rfl (pA rfl rfl) ?_
  refine sP rfl rfl rfl (pA rfl rfl) ?_
  refine lNil ?_
  refine wSeq ?_
  refine wReg ?_
  refine sP rfl rfl rfl (pLdW 0 rfl rfl rfl ty55 rfl) ?_
  refine sP rfl rfl rfl (p_build_arr (res := iL xV) rfl ze53 Try.underlying53 ty3 rfl rfl) ?_
  refine sP rfl rfl rfl (p_build (res := [iA 1, iA 3]) rfl ze23 pl23 rfl rfl) ?_
  refine sP rfl rfl rfl (p_buildSlice (res := ([(1, 3)] : List (Int × Int)).flatMap encA) rfl ze23 Try.underlying27 ty23 (by decide) (by decide) rfl rfl rfl) ?_
  refine sP rfl rfl rfl (p_build (res := (encCt xC)) rfl ze55 pl55 rfl rfl) ?_
  refine sP rfl rfl rfl (p_call rfl (rcsame_is (y := xC) (z := xC) rfl rfl (by decide) (by decide) (decide_eq_true rfl)) ⟨Sub.refl, Sub.refl, trivial⟩) ?_
  refine sP rfl rfl rfl (pM rfl rfl) ?_
  refine sG rfl rfl rfl rfl rfl (pM rfl rfl) ?_
  refine sG rfl rfl rfl rfl rfl (p_icmp rfl rfl rfl (eql_t rfl)) ?_
  refine sP rfl rfl rfl (p_pick rfl rfl rfl) ?_
  refine sP rfl rfl rfl (pM rfl rfl) ?_
  refine sG rfl rfl rfl rfl rfl (pLdW 1 rfl rfl rfl ty55 rfl) ?_
  refine sG rfl rfl rfl rfl rfl (pLdW 0 rfl rfl rfl ty55 rfl) ?_
  refine sG rfl rfl rfl rfl rfl (p_call rfl (rcsame_is (y := xC) (z := xC) rfl rfl (by decide) (by decide) (decide_eq_true rfl)) ⟨Sub.refl, Sub.refl, trivial⟩) ?_
  refine sP rfl rfl rfl (p_pick rfl rfl rfl) ?_
  refine sP rfl rfl rfl (pM rfl rfl) ?_
  refine sG rfl rfl rfl rfl rfl (pM rfl rfl) ?_
  refine sG rfl rfl rfl rfl rfl (p_icmp rfl rfl rfl (eql_t rfl)) ?_
  refine sP rfl rfl rfl (p_pick rfl rfl rfl) ?_
  refine sP rfl rfl rfl (pM rfl rfl) ?_
  refine sG rfl rfl rfl rfl rfl (pM rfl rfl) ?_
  refine sG rfl rfl rfl rfl rfl (p_icmp rfl rfl rfl (eql_t rfl)) ?_
  refine sP rfl rfl rfl (p_pick rfl rfl rfl) ?_
  refine sP rfl rfl rfl (pM rfl rfl) ?_
  refine sG rfl rfl rfl rfl rfl (pLdW 0 rfl rfl rfl ty55 rfl) ?_
  refine sG rfl rfl rfl rfl rfl (p_build (res := [iA 0, iA 1]) rfl ze23 pl23 rfl rfl) ?_
  refine sG rfl rfl rfl rfl rfl (p_call rfl (chas_is (c := xC) rfl (by decide) aw13_h1) ⟨Sub.refl, Sub.refl, trivial⟩) ?_
  refine sP rfl rfl rfl (p_pick rfl rfl rfl) ?_
  refine sP rfl rfl rfl (pM rfl rfl) ?_
  refine sG rfl rfl rfl rfl rfl (pLdW 0 rfl rfl rfl ty55 rfl) ?_
  refine sG rfl rfl rfl rfl rfl (p_build (res := [iA 1, iA 1]) rfl ze23 pl23 rfl rfl) ?_
  refine sG rfl rfl rfl rfl rfl (p_call rfl (chas_is (c := xC) rfl (by decide) aw13_h2) ⟨Sub.refl, Sub.refl, trivial⟩) ?_
  refine sG rfl rfl rfl rfl rfl (p_not rfl rfl) ?_
  refine sP rfl rfl rfl (p_pick rfl rfl rfl) ?_
  refine sP rfl rfl rfl (pM rfl rfl) ?_
  refine sG rfl rfl rfl rfl rfl (p_build (res := (iL zeroV ++ [.x (.slice none 0 0)])) rfl ze55 pl55 rfl rfl) ?_
  refine sG rfl rfl rfl rfl rfl (pLdW 0 rfl rfl rfl ty55 rfl) ?_
  refine sG rfl rfl rfl rfl rfl (p_call rfl (cmiss_is (y := zeroC) (z := xC) rfl rfl (by decide) (by decide) aw13_miss) ⟨zeroC_sub, Sub.refl, trivial⟩) ?_
  refine sG rfl rfl rfl rfl rfl (p_build (res := [iA 0, iA 1]) rfl ze23 pl23 rfl rfl) ?_
  refine sG rfl rfl rfl rfl rfl (p_build (res := [iA 0, iA 2]) rfl ze23 pl23 rfl rfl) ?_
  refine sG rfl rfl rfl rfl rfl (p_build (res := [iA 1, iA 3]) rfl ze23 pl23 rfl rfl) ?_
  refine sG rfl rfl rfl rfl rfl (p_buildSlice (res := (mL : List (Int × Int)).flatMap encA) rfl ze23 Try.underlying27 ty23 (by decide) (by decide) rfl rfl rfl) ?_
  refine sG rfl rfl rfl rfl rfl (p_call rfl (rdsame_is (a := mL) (b := mL) (decide_eq_true rfl) (by decide) (by decide)) ⟨Sub.refl, Sub.refl, trivial⟩) ?_
  refine sP rfl rfl rfl (p_pick rfl rfl rfl) ?_
  refine sP rfl rfl rfl (pM rfl rfl) ?_
  refine sG rfl rfl rfl rfl rfl (pLdW 0 rfl rfl rfl ty55 rfl) ?_
  refine sG rfl rfl rfl rfl rfl (p_build (res := (iL zeroV ++ [.x (.slice none 0 0)])) rfl ze55 pl55 rfl rfl) ?_
  refine sG rfl rfl rfl rfl rfl (p_call rfl (ccompare_is (y := xC) (z := zeroC) rfl rfl (by decide) (by decide) aw13_cmp) ⟨Sub.refl, zeroC_sub, trivial⟩) ?_
  refine sG rfl rfl rfl rfl rfl (p_icmp rfl rfl rfl (eql_t rfl)) ?_
  refine sP rfl rfl rfl (p_pick rfl rfl rfl) ?_
  refine sP rfl rfl rfl (pA rfl rfl) ?_
  refine lNil ?_
  refine wRet ?_
  exact rgs1 (rg_tmp (gives_sub (Sub.of_eq (rfl))))
end Go.Proofs.Ytmhkalalcmkpbaa

namespace Go.Proofs.Ytmhkalalcmkpbaa
open Go Go.RowKit
set_option linter.unusedVariables false
set_option linter.unusedSimpArgs false

section
variable {P : Program} {C : Cx} {Q : Exit → AS → Prop} {s : AS}

theorem aw_drawB {id : Nat} {ops : Array Oper} (hm : P.follows .mixedOrders = true) (n : Nat) (hok : drawOkB ops n C.N = true)
    (hc : Chain P C.w0.K C.N C.X s.h ops (ops.toList.take n) s.t fun f => AWL P C ops Q (ops.toList.drop n) ⟨f, s.h⟩) : AW P C (.region id ops true) Q s := by
  intro a0 w00 hs0
  have ok := drawOkB_spec hok
  clear hok
  obtain ⟨fs, vs, hf0, hK, hstep⟩ := hc.steps
  have hlen : (ops.toList.take n).length = n := by rw [List.length_take, Array.length_toList]; exact Nat.min_eq_left ok.le
  rw [hlen] at hK
  have hget : ∀ i, i < n → ∀ (o : Oper), ops[i]? = some o → (ops.toList.take n)[i]? = some o := fun i hi o ho => by
    rw [List.getElem?_take, if_pos hi]; simpa using ho
  -- what the chain's frames hold
  have keep : ∀ t, (∀ (j : Nat) (p : Oper), j < n → ops[j]? = some p → p.dst ≠ some t) → ∀ i, i ≤ n → fs i t = s.t t := by
    intro t ht i
    induction i with
    | zero => intro _; rw [hf0]
    | succ i ih =>
      intro hi
      have hlt : i < ops.size := Nat.lt_of_lt_of_le (by omega) ok.le
      have ho : ops[i]? = some ops[i] := Array.getElem?_eq_getElem hlt
      rw [(hstep i _ (hget i (by omega) _ ho)).2]
      have hne := ht i _ (by omega) ho
      cases hd : ops[i].dst with
      | none => exact ih (by omega)
      | some d =>
        rw [hd] at hne
        have hne : t ≠ d := fun e => hne (by rw [e])
        show (bif Nat.blt d C.N then upd (fs i) d (vs i) else fs i) t = _
        cases Nat.blt d C.N with
        | true => simp only [cond_true]; rw [upd_ne _ _ hne]; exact ih (by omega)
        | false => exact ih (by omega)
  have holds : ∀ (j : Nat) (p : Oper) t, j < n → ops[j]? = some p → p.dst = some t → ∀ i, j < i → i ≤ n → fs i t = vs j := by
    intro j p t hj hp hd i
    induction i with
    | zero => intro h; omega
    | succ i ih =>
      intro h1 h2
      have hlt : i < ops.size := Nat.lt_of_lt_of_le (by omega) ok.le
      have ho : ops[i]? = some ops[i] := Array.getElem?_eq_getElem hlt
      rw [(hstep i _ (hget i (by omega) _ ho)).2]
      by_cases hij : i = j
      · subst hij
        rw [hp] at ho
        obtain rfl : p = ops[i] := by injection ho
        have hb : Nat.blt t C.N = true := by simpa [Nat.blt_eq] using ok.lt i _ t hj hp hd
        rw [hd]
        show (bif Nat.blt t C.N then upd (fs i) t (vs i) else fs i) t = _
        rw [hb]; simp only [cond_true]; rw [upd_same]
      · have := ih (by omega) (by omega)
        cases hd' : ops[i].dst with
        | none => exact this
        | some d =>
          have hne : t ≠ d := fun e => hij (ok.uniq i j _ _ d (by omega) hj ho hp hd' (by rw [hd, e]))
          show (bif Nat.blt d C.N then upd (fs i) d (vs i) else fs i) t = _
          cases Nat.blt d C.N with
          | true => simp only [cond_true]; rw [upd_ne _ _ hne]; exact this
          | false => exact this
  -- the invariant
  let w1 : World := { w00 with drawn := w00.drawn + 1 }
  have hbw : Bl C.w0.K w00 w1 := ⟨⟨rfl, rfl, rfl, Nat.le_refl _, fun _ _ => rfl⟩, fun _ => Nat.le_succ _⟩
  have hs1 : C.St s a0 w1 := hs0.below_ hbw
  let A : Array Bool → Act → World → Prop := fun listed a w =>
    listed.size = ops.size ∧ Bl C.w0.K w1 w ∧ a.defers = [] ∧ a.tmps.size = C.N ∧
    (∀ t, (∀ (j : Nat) (p : Oper), j < n → ops[j]? = some p → p.dst ≠ some t) → Rep (owned C.X s.h) w (s.t t) (a.tmps.getD t undef)) ∧
    (∀ (j : Nat) (p : Oper) t, j < n → ops[j]? = some p → p.dst = some t → listed.getD j false = true → Rep (owned C.X s.h) w (vs j) (a.tmps.getD t undef)) ∧
    ∀ j, n ≤ j → listed.getD j false = false
  let B : Array Bool → Act → World → Prop := fun listed a w =>
    listed.size = ops.size ∧ ∃ k, n ≤ k ∧ k ≤ ops.size ∧ (∀ j, j < k → listed.getD j false = true) ∧ (∀ j, k ≤ j → listed.getD j false = false) ∧ wpList P ops (up C Q) (ops.toList.drop k) a w
  -- all of the first ones have come up
  have full : ∀ listed a w, A listed a w → (∀ j, j < n → listed.getD j false = true) → C.St ⟨fs n, s.h⟩ a w := by
    intro listed a w ⟨h1, h2, h3, h4, h5, h6, h7⟩ hall
    refine ⟨hs1.env.below_ h2, h3, h4, fun t => ?_⟩
    by_cases ht : ∃ (j : Nat) (p : Oper), j < n ∧ ops[j]? = some p ∧ p.dst = some t
    · obtain ⟨j, p, hj, hp, hd⟩ := ht
      show Rep _ _ (fs n t) _
      rw [holds j p t hj hp hd n hj (Nat.le_refl _)]
      exact h6 j p t hj hp hd (hall j hj)
    · have ht' : ∀ (j : Nat) (p : Oper), j < n → ops[j]? = some p → p.dst ≠ some t := fun j p hj hp hd => ht ⟨j, p, hj, hp, hd⟩
      show Rep _ _ (fs n t) _
      rw [keep t ht' n (Nat.le_refl _)]
      exact h5 t ht'
  have stepB : ∀ listed a w i, Dn ops listed → B listed a w → i ∈ Region.ready .any ops listed → wpOp P ops (up C Q) i (fun a w => (A (listed.setIfInBounds i true) a w ∨ B (listed.setIfInBounds i true) a w) ∧ Dn ops (listed.setIfInBounds i true)) a w := by
    intro listed a w i hdn ⟨hsz, k, h1, h2, h3, h4, h5⟩ hi
    obtain ⟨h0, o, ho, hall⟩ := mem_ready.1 hi
    have hlt : i < ops.size := (Array.getElem?_eq_some_iff.1 ho).1
    have hki : k ≤ i := by
      rcases Nat.lt_or_ge i k with h | h
      · have := h3 i h
        have hl : i < listed.size := by omega
        simp [hl] at this h0
        rw [this] at h0; cases h0
      · exact h
    obtain rfl : i = k := by
      rcases Nat.lt_or_ge k i with h | h
      · have := memT_listed hdn ops.size i k o ho hall (ok.tail i k o (by omega) h ho)
        rw [h4 k (Nat.le_refl _)] at this; cases this
      · omega
    have hd : ops.toList.drop i = o :: ops.toList.drop (i + 1) := by
      have hl : i < ops.toList.length := by simpa using hlt
      rw [List.drop_eq_getElem_cons hl]
      congr 1
      have := (Array.getElem?_eq_some_iff.1 ho).2
      simpa using this
    rw [hd] at h5
    have h5' : wpOp P ops (up C Q) i (wpList P ops (up C Q) (ops.toList.drop (i + 1))) a w := by
      unfold wpOp
      rw [ho]
      exact h5
    refine wpOp_mono (fun a' w' h => ⟨.inr ⟨by simpa using hsz, i + 1, by omega, by omega, fun j hj => ?_, fun j hj => ?_, h⟩, dn_step hdn hi⟩) h5'
    · by_cases hij : j = i
      · subst hij; have : j < listed.size := by omega
        simp [this]
      · rw [getD_set_ne false (Ne.symm hij)]; exact h3 j (by omega)
    · rw [getD_set_ne false (by omega)]; exact h4 j (by omega)
  refine wp_region_any hm (wpAny_inv (md := .any) (fun listed a w => (A listed a w ∨ B listed a w) ∧ Dn ops listed) ?_ ?_ ops.size _ a0 w1 ?_ ?_)
  · intro listed a w i ⟨hJ, hdn⟩ hi
    rcases hJ with hA | hB
    · have hA' := hA
      obtain ⟨h0, o, ho, hall⟩ := mem_ready.1 hi
      obtain ⟨h1, h2, h3, h4, h5, h6, h7⟩ := hA
      by_cases hin : i < n
      · -- one of the first
        obtain ⟨hp, hfs⟩ := hstep i o (hget i hin o ho)
        have env : Env C.X C.w0 s.h w := hs1.env.below_ h2
        have reads : ∀ t, (t ∈ opRds o ∨ ∃ g b, o.guard = some (g, b) ∧ (ops[g]?).bind (·.dst) = some t) → Rep (owned C.X s.h) w (fs i t) (a.tmps.getD t undef) := by
          intro t ht
          by_cases hw : ∃ (j : Nat) (p : Oper), j < n ∧ ops[j]? = some p ∧ p.dst = some t
          · obtain ⟨j, p, hj, hp, hd⟩ := hw
            obtain ⟨hji, e, he, hej, hb⟩ := ok.reads i j o p t hin hj ho hp hd ht
            rw [holds j p t hj hp hd i hji (Nat.le_of_lt hin)]
            exact h6 j p t hj hp hd (by have := hall e he hb; rwa [hej] at this)
          · have ht' : ∀ (j : Nat) (p : Oper), j < n → ops[j]? = some p → p.dst ≠ some t := fun j p hj hp hd => hw ⟨j, p, hj, hp, hd⟩
            rw [keep t ht' i (Nat.le_of_lt hin)]
            exact h5 t ht'
        have fin : ∀ v w', Bl C.w0.K w w' → Rep (owned C.X s.h) w' (vs i) v → A (listed.setIfInBounds i true) (a.put o.dst v) w' := by
          intro v w' hb hr
          have mono : ∀ {c : AV} {u : Value}, Rep (owned C.X s.h) w c u → Rep (owned C.X s.h) w' c u := fun h => Rep.mono (Kept.of_below hb.b) (fun _ _ h => h) _ _ h
          refine ⟨by simpa using h1, h2.trans hb, ?_, ?_, fun t ht => ?_, fun j p t hj hp hd hl => ?_, fun j hj => ?_⟩
          · cases o.dst <;> exact h3
          · cases o.dst <;> simpa [Act.put] using h4
          · have := mono (h5 t ht)
            cases hd : o.dst with
            | none => exact this
            | some d =>
              have hne : d ≠ t := fun e => ht i o hin ho (by rw [hd, e])
              simpa [Act.put, Array.getElem?_setIfInBounds_ne hne] using this
          · by_cases hij : i = j
            · subst hij
              rw [ho] at hp
              obtain rfl : o = p := by injection hp
              have hlt : t < a.tmps.size := by rw [h4]; exact ok.lt i o t hin ho hd
              rw [hd]
              simpa [Act.put, hlt] using hr
            · rw [getD_set_ne false hij] at hl
              have := mono (h6 j p t hj hp hd hl)
              cases hd' : o.dst with
              | none => exact this
              | some d =>
                have hne : d ≠ t := fun e => hij (ok.uniq i j o p d hin hj ho hp hd' (by rw [hd, e]))
                simpa [Act.put, Array.getElem?_setIfInBounds_ne hne] using this
          · rw [getD_set_ne false (by omega)]; exact h7 j hj
        unfold wpOp
        rw [ho]
        simp only []
        rcases hp with ⟨hg, hp⟩ | ⟨g, b, b', t, hg, hgd, hft, hy, hn⟩ | ⟨g, b, t, hg, hgd, hft, hav⟩
        · rw [wanted_none hg]
          exact .inl (hp a w C.w0 rfl env h4 (fun t ht => reads t (.inl ht)) _ _ fun v w' hb hr => ⟨.inl (fin v w' hb hr), dn_step hdn hi⟩)
        · have hr := reads t (.inr ⟨g, b, hg, hgd⟩)
          rw [hft] at hr
          simp only [Rep] at hr
          have hyl := yield_bool hgd hr
          by_cases hbb : b' = b
          · subst hbb
            rw [show Region.wanted o (yielded ops a.tmps) = true by simp [Region.wanted, hg, hyl]]
            exact .inl (hy rfl a w C.w0 rfl env h4 (fun t ht => reads t (.inl ht)) _ _ fun v w' hb hr => ⟨.inl (fin v w' hb hr), dn_step hdn hi⟩)
          · rw [show Region.wanted o (yielded ops a.tmps) = false by simp [Region.wanted, hg, hyl, hbb]]
            exact ⟨.inl (fin undef w (Bl.refl _ _) (by
              rcases hn hbb with e | e
              · rw [e]; exact undef_rep
              · rw [e]; simp only [Rep])), dn_step hdn hi⟩
        · have hr := reads t (.inr ⟨g, b, hg, hgd⟩)
          rw [hft] at hr
          simp only [Rep] at hr
          have hyl : yielded ops a.tmps g = none := by
            unfold yielded
            rw [hgd]
            show (match a.tmps[t]? with | some (.bool b) => some b | _ => none) = none
            rw [Array.getD_eq_getD_getElem?] at hr
            cases hh : a.tmps[t]? with
            | none => rfl
            | some v => rw [hh] at hr; obtain rfl : v = undef := hr; rfl
          rw [show Region.wanted o (yielded ops a.tmps) = false by simp [Region.wanted, hg, hyl]]
          exact ⟨.inl (fin undef w (Bl.refl _ _) (by rw [hav]; simp only [Rep])), dn_step hdn hi⟩
      · -- the first of those behind
        have hall' : ∀ j, j < i → listed.getD j false = true := fun j hj => by
          exact memT_listed hdn ops.size i j o ho hall (ok.tail i j o (by omega) hj ho)
        have hni : i = n := by
          rcases Nat.lt_or_ge n i with h | h
          · have := hall' n h
            rw [h7 n (Nat.le_refl _)] at this; cases this
          · omega
        subst hni
        have hst := full listed a w hA' hall'
        have hwl := hK a w hst
        exact stepB listed a w i hdn ⟨h1, i, Nat.le_refl _, ok.le, hall', h7, hwl⟩ hi
    · exact stepB listed a w i hdn hB hi
  · intro listed a w ⟨hJ, _⟩ hr
    have hsz : listed.size = ops.size := by rcases hJ with h | h <;> exact h.1
    have hall := all_listedB ok.down hsz hr
    rcases hJ with hA | ⟨_, k, h1, h2, h3, h4, h5⟩
    · have hn : n = ops.size := by
        rcases Nat.lt_or_ge n ops.size with h | h
        · have := hall n h
          rw [hA.2.2.2.2.2.2 n (Nat.le_refl _)] at this; cases this
        · have := ok.le; omega
      have hwl := hK a w (full listed a w hA fun j hj => hall j (by omega))
      have e : ops.toList.drop n = [] := by rw [hn]; exact List.drop_eq_nil_of_le (by simp)
      rw [e] at hwl
      exact hwl
    · have hk : k = ops.size := by
        rcases Nat.lt_or_ge k ops.size with h | h
        · have := hall k h
          rw [h4 k (Nat.le_refl _)] at this; cases this
        · omega
      have e : ops.toList.drop k = [] := by rw [hk]; exact List.drop_eq_nil_of_le (by simp)
      rw [e] at h5
      exact h5
  · unfold unl
    have := List.length_filter_le (fun i => !(Array.replicate ops.size false).getD i true) (List.range ops.size)
    simpa using this
  · refine ⟨.inl ⟨by simp, Bl.refl _ _, hs1.slots.defers, hs1.slots.size, fun t _ => hs1.slots.slot t, fun j p t hj hp hd hl => ?_, fun j hj => ?_⟩, dn_start ops ops.size⟩
    · have hlt : j < ops.size := (Array.getElem?_eq_some_iff.1 hp).1
      simp [hlt] at hl
    · rw [Array.getD_eq_getD_getElem?]
      by_cases hlt : j < ops.size
      · simp [hlt]
      · simp [hlt]
end

section
variable {P : Program} {C : Cx} {Q : Exit → AS → Prop} {s : AS}
theorem wDrawT {i : Nat} {l : List Oper} (n : Nat) (hm : P.follows .mixedOrders = true) (hok : drawOkB l.toArray n C.N = true) (k : WL (some (l.drop n)) P C l.toArray Q (l.take n) s) : W P C (.region i l.toArray true) Q s :=
  ⟨aw_drawB hm n hok (by simpa using k.run)⟩
end
end Go.Proofs.Ytmhkalalcmkpbaa

namespace Go.Proofs.Ytmhkalalcmkpbaa
open Go Go.RowKit
set_option linter.unusedVariables false
set_option linter.unusedSimpArgs false
section
variable {P : Program} {K : Prop} {N : Nat} {X : Nat → Prop} {h : List HObj} {f : Nat → AV} {o : Oper}
theorem p_bneC {t t' : TypeId} {x y : Operand} {a b : Bool} {r : Bool} (ho : o.op = .binOp .neq t x y t') (hx : evalT f x = .x (.bool a)) (hy : evalT f y = .x (.bool b)) (ht : P.underlying t = some .bool) (hr : (!(a == b)) = r) : PureOp P K N X h f o (.x (.bool r)) := pure_run fun ac w w0 env H => by
  rw [ho] at H
  have g1 := H x (by simp [Op.operands])
  have g2 := H y (by simp [Op.operands])
  rw [hx, rep_x] at g1
  rw [hy, rep_x] at g2
  refine ⟨.bool r, ?_, rep_x.2 rfl⟩
  subst hr
  have := run_neq_bool (P := P) w t a b ht
  simp [execOp, ho, g1, g2, eqGuard, this]
end

theorem leqC_t {a b : Int} (h : a ≤ b) : icmp .leq a b = some true := congrArg some (decide_eq_true h)
theorem leqC_f {a b : Int} (h : ¬ a ≤ b) : icmp .leq a b = some false := congrArg some (decide_eq_false h)
theorem few13_is {c : CtxT} {b : Bool} (hv : c.1.length = 16) (h : fewC c = b) : PFn Try.prog False 25 [ctA c] (bA b) := h ▸ few13_p c hv
theorem fewC_le {c : CtxT} (h : fewC c = true) : c.2.length ≤ 40 := by unfold fewC at h; rw [decide_eq_true_eq] at h; omega
theorem add_len (c : CtxT) (l : List (Int × Int)) : (addF c l).2.length ≤ c.2.length + l.length := by
  have := clean_len (c.1, c.2 ++ l)
  rw [List.length_append] at this
  exact this
theorem join_len (a b : CtxT) : (joinF a b).2.length ≤ a.2.length + b.2.length := by
  have h1 := add_len (vmax (cleanF a).1 (cleanF b).1, (cleanF a).2) (cleanF b).2
  have h2 := clean_len a
  have h3 := clean_len b
  have h4 : (joinF a b).2.length ≤ (cleanF a).2.length + (cleanF b).2.length := h1
  omega
theorem gtrC_t {a b : Int} (h : b < a) : icmp .gtr a b = some true := congrArg some (decide_eq_true h)
theorem gtrC_f {a b : Int} (h : ¬ b < a) : icmp .gtr a b = some false := congrArg some (decide_eq_false h)
end Go.Proofs.Ytmhkalalcmkpbaa

namespace Go.Proofs.Ytmhkalalcmkpbaa
set_option linter.unusedVariables false
set_option linter.unusedSimpArgs false

/-- A replica's count, on its way up. -/
structure Up (c : CtxT) (i : Nat) (n : Int) : Prop where
  lo : clampI (vget c.1 i) ≤ n
  hi : n ≤ 1099511627776
  all : ∀ k, 1 ≤ k → k ≤ n → hasC c ((i : Int), k) = true
theorem Up.start (c : CtxT) {i : Nat} (h : i < 16) : Up c i (clampI (vget c.1 i)) where
  lo := Int.le_refl _
  hi := (clamp_rng _).2
  all k h1 h2 := by
    have h3 := (clamp_rng (vget c.1 i)).2
    rw [hasC_iff, chk_iff]
    exact ⟨⟨by show (0 : Int) ≤ (i : Int); omega, by show (i : Int) < 16; omega, h1, by show k ≤ _; omega⟩, .inl ((clamp_le h1 (by omega)).1 h2)⟩
theorem Up.rng {c : CtxT} {i : Nat} {n : Int} (h : Up c i n) : 0 ≤ n ∧ n ≤ 1099511627776 := ⟨Int.le_trans (clamp_rng _).1 h.lo, h.hi⟩
theorem Up.step {c : CtxT} {i : Nat} {n : Int} (h : Up c i n) (hh : hasC c ((i : Int), n + 1) = true) : Up c i (n + 1) where
  lo := Int.le_trans h.lo (by omega)
  hi := by rw [hasC_iff, chk_iff] at hh; exact hh.1.2.2.2
  all k h1 h2 := by
    by_cases e : k = n + 1
    · rw [e]; exact hh
    · exact h.all k h1 (by omega)
theorem Up.lt {c : CtxT} {i : Nat} {n : Int} (h : Up c i n) (hh : hasC c ((i : Int), n + 1) = true) : n < 1099511627776 := by rw [hasC_iff, chk_iff] at hh; have := hh.1.2.2.2; simp only at this; omega
def TopOk (c : CtxT) (i : Nat) (n : Int) : Prop := Up c i n ∧ hasC c ((i : Int), n + 1) = false
def keepR (v : List Int) (d : Int × Int) : Bool := decide (chk d = 0) && !vhas v d
def restR (c : CtxT) (v : List Int) : List (Int × Int) := (sortK ltD c.2).filter (keepR v)
def restTo (c : CtxT) (v : List Int) (k : Nat) : List (Int × Int) := ((sortK ltD c.2).take k).filter (keepR v)
theorem restTo_all (c : CtxT) (v : List Int) : restTo c v (sortK ltD c.2).length = restR c v := by unfold restTo restR; rw [List.take_length]
theorem restTo_len (c : CtxT) (v : List Int) (k : Nat) : (restTo c v k).length ≤ k := by unfold restTo; exact Nat.le_trans (List.length_filter_le _ _) (by rw [List.length_take]; omega)
theorem restTo_yes {c : CtxT} {v : List Int} {k : Nat} {d : Int × Int} (h : (sortK ltD c.2)[k]? = some d) (hk : keepR v d = true) : restTo c v (k + 1) = restTo c v k ++ [d] := by
  obtain ⟨hi, rfl⟩ := List.getElem?_eq_some_iff.1 h
  unfold restTo
  rw [← List.take_append_getElem hi, List.filter_append, List.filter_cons_of_pos hk, List.filter_nil]
theorem restTo_no {c : CtxT} {v : List Int} {k : Nat} {d : Int × Int} (h : (sortK ltD c.2)[k]? = some d) (hk : keepR v d = false) : restTo c v (k + 1) = restTo c v k := by
  obtain ⟨hi, rfl⟩ := List.getElem?_eq_some_iff.1 h
  unfold restTo
  rw [← List.take_append_getElem hi, List.filter_append, List.filter_cons_of_neg (by rw [hk]; decide), List.filter_nil, List.append_nil]
theorem vget_of {v : List Int} {r : Int} (h0 : 0 ≤ r) : vget v ((r.toNat : Nat) : Int) = vget v r := by unfold vget; rw [Int.toNat_natCast]
theorem clean_R {c : CtxT} (hl : c.1.length = 16) {v : List Int} (hv : v.length = 16) (ht : ∀ i, i < 16 → TopOk c i (vget v i)) : (v, restR c v) = cleanF c := by
  have top : ∀ r : Int, 0 ≤ r → r < 16 → Up c r.toNat (vget v r) ∧ hasC c (r, vget v r + 1) = false := fun r h0 h1 => by
    have := ht r.toNat (by omega)
    rw [vget_of h0] at this
    refine ⟨this.1, ?_⟩
    have h2 := this.2
    rwa [show ((r.toNat : Nat) : Int) = r by omega] at h2
  have mem : ∀ d, d ∈ restR c v ↔ d ∈ c.2 ∧ chk d = 0 ∧ vhas v d = false := fun d => by
    unfold restR keepR
    rw [List.mem_filter, (sortK_facts stoD c.2).2]
    simp
  refine clean_is hl ⟨hv, ?_, ?_, ?_⟩ ?_
  · intro n hn
    obtain ⟨i, hi⟩ := List.mem_iff_getElem?.1 hn
    obtain ⟨h1, h2⟩ := List.getElem?_eq_some_iff.1 hi
    have hi16 : i < 16 := by have h5 : v.length = 16 := hv; have h6 : i < v.length := h1; omega
    have h3 := (ht i hi16).1.rng
    rw [vget_nat v i h1, h2] at h3
    exact h3
  · exact List.Pairwise.filter _ (sortK_facts stoD c.2).1
  · intro d hd
    obtain ⟨h1, h2, h3⟩ := (mem d).1 hd
    refine ⟨h2, ?_⟩
    have hc := (chk_iff d).1 h2
    have hn : ¬ d.2 ≤ vget v d.1 := fun g => by
      have : vhas v d = true := (vhas_iff v d).2 ⟨h2, g⟩
      rw [this] at h3; cases h3
    have hne : d.2 ≠ vget v d.1 + 1 := fun g => by
      have h4 := (top d.1 hc.1 hc.2.1).2
      rw [← g] at h4
      have h5 : hasC c d = true := (hasC_iff c d).2 ⟨h2, .inr h1⟩
      rw [show ((d.1, d.2) : Int × Int) = d from rfl, h5] at h4
      cases h4
    show vget v d.1 + 1 < d.2
    omega
  · intro d
    apply Bool.eq_iff_iff.2
    rw [hasC_iff, hasC_iff]
    constructor
    · rintro ⟨h1, h2 | h2⟩
      · have hc := (chk_iff d).1 h1
        have h3 := (top d.1 hc.1 hc.2.1).1.all d.2 hc.2.2.1 h2
        rw [show (((d.1.toNat : Nat) : Int), d.2) = d from Prod.ext (by show ((d.1.toNat : Nat) : Int) = d.1; omega) rfl] at h3
        exact (hasC_iff c d).1 h3
      · exact ⟨h1, .inr ((mem d).1 h2).1⟩
    · rintro ⟨h1, h2⟩
      refine ⟨h1, ?_⟩
      have hc := (chk_iff d).1 h1
      rcases h2 with h2 | h2
      · left
        have h3 := (top d.1 hc.1 hc.2.1).1.lo
        rw [vget_of hc.1] at h3
        exact Int.le_trans ((clamp_le hc.2.2.1 hc.2.2.2).2 h2) h3
      · by_cases g : vhas v d = true
        · exact .inl ((vhas_iff v d).1 g).2
        · exact .inr ((mem d).2 ⟨h2, h1, by simpa using g⟩)
end Go.Proofs.Ytmhkalalcmkpbaa

namespace Go.Proofs.Ytmhkalalcmkpbaa
open Go Go.RowKit
set_option linter.unusedVariables false
set_option linter.unusedSimpArgs false

theorem rdin_is {l : List (Int × Int)} {d : Int × Int} {b : Bool} (hn : l.length < 1000000) (h : decide (d ∈ l) = b) : PFn Try.prog False 78 [slD l, dA d] (bA b) := h ▸ rdin_p l d hn
theorem rvhas_is {v : List Int} {d : Int × Int} {b : Bool} (hv : v.length = 16) (h : vhas v d = b) : PFn Try.prog False 119 [vA v, dA d] (bA b) := h ▸ rvhas_p v d hv
theorem rhas_cases (c : CtxT) (d : Int × Int) : (chk d ≠ 0 ∧ hasC c d = false) ∨ (chk d = 0 ∧ d.2 ≤ vget c.1 d.1 ∧ hasC c d = true) ∨ (chk d = 0 ∧ ¬ d.2 ≤ vget c.1 d.1 ∧ d ∈ c.2 ∧ hasC c d = true) ∨ (chk d = 0 ∧ ¬ d.2 ≤ vget c.1 d.1 ∧ d ∉ c.2 ∧ hasC c d = false) := by
  have e := hasC_iff c d
  by_cases h1 : chk d = 0
  · by_cases h2 : d.2 ≤ vget c.1 d.1
    · exact .inr (.inl ⟨h1, h2, e.2 ⟨h1, .inl h2⟩⟩)
    · by_cases h3 : d ∈ c.2
      · exact .inr (.inr (.inl ⟨h1, h2, h3, e.2 ⟨h1, .inr h3⟩⟩))
      · refine .inr (.inr (.inr ⟨h1, h2, h3, ?_⟩))
        cases h : hasC c d with
        | false => rfl
        | true => exact absurd (e.1 h).2 (fun g => g.elim h2 h3)
  · refine .inl ⟨h1, ?_⟩
    cases h : hasC c d with
    | false => rfl
    | true => exact absurd (e.1 h).1 h1
theorem keep_cases (v : List Int) (d : Int × Int) : (chk d ≠ 0 ∧ keepR v d = false) ∨ (chk d = 0 ∧ vhas v d = true ∧ keepR v d = false) ∨ (chk d = 0 ∧ vhas v d = false ∧ keepR v d = true) := by
  unfold keepR
  by_cases h1 : chk d = 0
  · cases h : vhas v d with
    | true => exact .inr (.inl ⟨h1, rfl, by simp⟩)
    | false => exact .inr (.inr ⟨h1, rfl, by simp [h1]⟩)
  · exact .inl ⟨h1, by rw [decide_eq_false h1]; rfl⟩
theorem vset_eq {v : List Int} {i : Nat} {x : Int} (h : i < v.length) : vget (v.set i x) (i : Int) = x := by
  have := vget_set (v := v) (r := (i : Int)) (s := (i : Int)) (x := x) (by omega) (by simpa using h) (by omega)
  rw [if_pos rfl] at this
  exact this
theorem vset_ne {v : List Int} {i j : Nat} {x : Int} (h : i < v.length) (hj : j ≠ i) : vget (v.set i x) (j : Int) = vget v (j : Int) := by
  have := vget_set (v := v) (r := (i : Int)) (s := (j : Int)) (x := x) (by omega) (by simpa using h) (by omega)
  rw [if_neg (by omega)] at this
  exact this

set_option maxRecDepth 100000 in
theorem rchas_p (c : CtxT) (d : Int × Int) (hv : c.1.length = 16) (hn : c.2.length < 1000000) : PFn Try.prog False 33 [ctA c, dA d] (bA (hasC c d)) := by
  refine pfn Try.func33 rfl (by kernel_rfl) 24 rfl _ rfl (Nat.le_of_ble_eq_true rfl) (fun X w0 => ?_)
  refine wSeq ?_
  refine wReg ?_
  refine sBox rfl rfl rfl rfl rfl (fun g2 => ?_)
  refine sBox rfl rfl rfl rfl rfl (fun g3 => ?_)
  refine sP rfl rfl rfl (pA rfl rfl) ?_
  refine lNil ?_
  refine wCut (fun L h => ∃ b : Bool, b = (hasC c d) ∧ L = [(2, .x (.pointer (some ⟨g2, 0, none⟩))), (4, bA b)] ∧ h = []) ?_ ?_
  · rcases rhas_cases c d with ⟨e1, hbv⟩ | ⟨e1, e2, hbv⟩ | ⟨e1, e2, e3, hbv⟩ | ⟨e1, e2, e3, hbv⟩
    · refine wDraw 20 (by kernel_rfl) (by kernel_rfl) ?_
      refine sP rfl rfl rfl (pLdW 1 rfl rfl rfl ty23 rfl) ?_
      refine sP rfl rfl rfl (p_call rfl (rdcheck_p d) ⟨Sub.refl, trivial⟩) ?_
      refine sP rfl rfl rfl (p_icmp rfl rfl rfl (eql0_f e1)) ?_
      refine sP rfl rfl rfl (pM rfl rfl) ?_
      refine sUx rfl rfl rfl (by decide) rfl rfl ?_
      refine sUx rfl rfl rfl (by decide) rfl rfl ?_
      refine sUx rfl rfl rfl (by decide) rfl rfl ?_
      refine sUx rfl rfl rfl (by decide) rfl rfl ?_
      refine sUx rfl rfl rfl (by decide) rfl rfl ?_
      refine sUx rfl rfl rfl (by decide) rfl rfl ?_
      refine sUx rfl rfl rfl (by decide) rfl rfl ?_
      refine sUx rfl rfl rfl (by decide) rfl rfl ?_
      refine sUx rfl rfl rfl (by decide) rfl rfl ?_
      refine sNx rfl rfl rfl rfl rfl ?_
      refine sNx rfl rfl rfl rfl rfl ?_
      refine sNx rfl rfl rfl rfl rfl ?_
      refine sNx rfl rfl rfl rfl rfl ?_
      refine sUx rfl rfl rfl (by decide) rfl rfl ?_
      refine sP rfl rfl rfl (p_pick rfl rfl rfl) ?_
      refine sP rfl rfl rfl (pA rfl rfl) ?_
      refine lTail ?_
      refine lNil ?_
      exact ⟨_, [], _, ⟨_, (by exact hbv.symm), rfl, rfl⟩, ⟨rfl, rfl, trivial⟩, rfl⟩
    · refine wDraw 20 (by kernel_rfl) (by kernel_rfl) ?_
      refine sP rfl rfl rfl (pLdW 1 rfl rfl rfl ty23 rfl) ?_
      refine sP rfl rfl rfl (p_call rfl (rdcheck_p d) ⟨Sub.refl, trivial⟩) ?_
      refine sP rfl rfl rfl (p_icmp rfl rfl rfl (eql0_t e1)) ?_
      refine sP rfl rfl rfl (pM rfl rfl) ?_
      refine sG rfl rfl rfl rfl rfl (p_fieldAddr_own rfl rfl fl23_1 ty3 (by decide)) ?_
      refine sG rfl rfl rfl rfl rfl (pLdO1 1 rfl rfl rfl ty3 rfl) ?_
      refine sG rfl rfl rfl rfl rfl (p_fieldAddr_own rfl rfl fl23_0 ty3 (by decide)) ?_
      refine sG rfl rfl rfl rfl rfl (pLdO1 1 rfl rfl rfl ty3 rfl) ?_
      refine sG rfl rfl rfl rfl rfl (p_fieldAddr_own rfl rfl fl55_0 ty53 (by decide)) ?_
      refine sG rfl rfl rfl rfl rfl (p_indexAddr_arr rfl rfl Try.underlying53 ty3 rfl (i := d.1.toNat) (by have := (chk_iff d).1 e1; omega) (by have := (chk_iff d).1 e1; omega)) ?_
      refine sG rfl rfl rfl rfl rfl (pLdO1 0 rfl rfl rfl ty3 (ctx_at (vget_at hv ((chk_iff d).1 e1).1 ((chk_iff d).1 e1).2.1))) ?_
      refine sG rfl rfl rfl rfl rfl (p_icmp rfl rfl rfl (leqC_t e2)) ?_
      refine sG rfl rfl rfl rfl rfl (pM rfl rfl) ?_
      refine sUx rfl rfl rfl (by decide) rfl rfl ?_
      refine sUx rfl rfl rfl (by decide) rfl rfl ?_
      refine sUx rfl rfl rfl (by decide) rfl rfl ?_
      refine sUx rfl rfl rfl (by decide) rfl rfl ?_
      refine sG rfl rfl rfl rfl rfl (p_pick rfl rfl rfl) ?_
      refine sP rfl rfl rfl (p_pick rfl rfl rfl) ?_
      refine sP rfl rfl rfl (pA rfl rfl) ?_
      refine lTail ?_
      refine lNil ?_
      exact ⟨_, [], _, ⟨_, (by exact hbv.symm), rfl, rfl⟩, ⟨rfl, rfl, trivial⟩, rfl⟩
    · refine wDraw 20 (by kernel_rfl) (by kernel_rfl) ?_
      refine sP rfl rfl rfl (pLdW 1 rfl rfl rfl ty23 rfl) ?_
      refine sP rfl rfl rfl (p_call rfl (rdcheck_p d) ⟨Sub.refl, trivial⟩) ?_
      refine sP rfl rfl rfl (p_icmp rfl rfl rfl (eql0_t e1)) ?_
      refine sP rfl rfl rfl (pM rfl rfl) ?_
      refine sG rfl rfl rfl rfl rfl (p_fieldAddr_own rfl rfl fl23_1 ty3 (by decide)) ?_
      refine sG rfl rfl rfl rfl rfl (pLdO1 1 rfl rfl rfl ty3 rfl) ?_
      refine sG rfl rfl rfl rfl rfl (p_fieldAddr_own rfl rfl fl23_0 ty3 (by decide)) ?_
      refine sG rfl rfl rfl rfl rfl (pLdO1 1 rfl rfl rfl ty3 rfl) ?_
      refine sG rfl rfl rfl rfl rfl (p_fieldAddr_own rfl rfl fl55_0 ty53 (by decide)) ?_
      refine sG rfl rfl rfl rfl rfl (p_indexAddr_arr rfl rfl Try.underlying53 ty3 rfl (i := d.1.toNat) (by have := (chk_iff d).1 e1; omega) (by have := (chk_iff d).1 e1; omega)) ?_
      refine sG rfl rfl rfl rfl rfl (pLdO1 0 rfl rfl rfl ty3 (ctx_at (vget_at hv ((chk_iff d).1 e1).1 ((chk_iff d).1 e1).2.1))) ?_
      refine sG rfl rfl rfl rfl rfl (p_icmp rfl rfl rfl (leqC_f e2)) ?_
      refine sG rfl rfl rfl rfl rfl (pM rfl rfl) ?_
      refine sG rfl rfl rfl rfl rfl (p_fieldAddr_own rfl rfl fl55_1 ty27 (by decide)) ?_
      refine sG rfl rfl rfl rfl rfl (pLdO1 0 rfl rfl rfl ty27 (ctx_C hv)) ?_
      refine sG rfl rfl rfl rfl rfl (pLdW 1 rfl rfl rfl ty23 rfl) ?_
      refine sG rfl rfl rfl rfl rfl (p_call rfl (rdin_is hn (decide_eq_true e3)) ⟨Sub.refl, Sub.refl, trivial⟩) ?_
      refine sG rfl rfl rfl rfl rfl (p_pick rfl rfl rfl) ?_
      refine sP rfl rfl rfl (p_pick rfl rfl rfl) ?_
      refine sP rfl rfl rfl (pA rfl rfl) ?_
      refine lTail ?_
      refine lNil ?_
      exact ⟨_, [], _, ⟨_, (by exact hbv.symm), rfl, rfl⟩, ⟨rfl, rfl, trivial⟩, rfl⟩
    · refine wDraw 20 (by kernel_rfl) (by kernel_rfl) ?_
      refine sP rfl rfl rfl (pLdW 1 rfl rfl rfl ty23 rfl) ?_
      refine sP rfl rfl rfl (p_call rfl (rdcheck_p d) ⟨Sub.refl, trivial⟩) ?_
      refine sP rfl rfl rfl (p_icmp rfl rfl rfl (eql0_t e1)) ?_
      refine sP rfl rfl rfl (pM rfl rfl) ?_
      refine sG rfl rfl rfl rfl rfl (p_fieldAddr_own rfl rfl fl23_1 ty3 (by decide)) ?_
      refine sG rfl rfl rfl rfl rfl (pLdO1 1 rfl rfl rfl ty3 rfl) ?_
      refine sG rfl rfl rfl rfl rfl (p_fieldAddr_own rfl rfl fl23_0 ty3 (by decide)) ?_
      refine sG rfl rfl rfl rfl rfl (pLdO1 1 rfl rfl rfl ty3 rfl) ?_
      refine sG rfl rfl rfl rfl rfl (p_fieldAddr_own rfl rfl fl55_0 ty53 (by decide)) ?_
      refine sG rfl rfl rfl rfl rfl (p_indexAddr_arr rfl rfl Try.underlying53 ty3 rfl (i := d.1.toNat) (by have := (chk_iff d).1 e1; omega) (by have := (chk_iff d).1 e1; omega)) ?_
      refine sG rfl rfl rfl rfl rfl (pLdO1 0 rfl rfl rfl ty3 (ctx_at (vget_at hv ((chk_iff d).1 e1).1 ((chk_iff d).1 e1).2.1))) ?_
      refine sG rfl rfl rfl rfl rfl (p_icmp rfl rfl rfl (leqC_f e2)) ?_
      refine sG rfl rfl rfl rfl rfl (pM rfl rfl) ?_
      refine sG rfl rfl rfl rfl rfl (p_fieldAddr_own rfl rfl fl55_1 ty27 (by decide)) ?_
      refine sG rfl rfl rfl rfl rfl (pLdO1 0 rfl rfl rfl ty27 (ctx_C hv)) ?_
      refine sG rfl rfl rfl rfl rfl (pLdW 1 rfl rfl rfl ty23 rfl) ?_
      refine sG rfl rfl rfl rfl rfl (p_call rfl (rdin_is hn (decide_eq_false e3)) ⟨Sub.refl, Sub.refl, trivial⟩) ?_
      refine sG rfl rfl rfl rfl rfl (p_pick rfl rfl rfl) ?_
      refine sP rfl rfl rfl (p_pick rfl rfl rfl) ?_
      refine sP rfl rfl rfl (pA rfl rfl) ?_
      refine lTail ?_
      refine lNil ?_
      exact ⟨_, [], _, ⟨_, (by exact hbv.symm), rfl, rfl⟩, ⟨rfl, rfl, trivial⟩, rfl⟩
  · rintro L h ⟨bb, hbb, rfl, rfl⟩
    refine wRet ?_
    exact rgs1 (rg_tmp (gives_sub (Sub.of_eq (avB hbb))))
set_option maxHeartbeats 1000000 in
set_option maxRecDepth 100000 in
theorem rcclean_p (c : CtxT) (hv : c.1.length = 16) (hn : c.2.length < 1000000) : PFn Try.prog False 51 [ctA c] (ctA (cleanF c)) := by
  refine pfn Try.func51 rfl (by kernel_rfl) 71 rfl _ rfl (Nat.le_of_ble_eq_true rfl) (fun X w0 => ?_)
  refine wSeq ?_
  refine wReg ?_
  refine sBox rfl rfl rfl rfl rfl (fun g1 => ?_)
  refine sAlloc rfl rfl rfl rfl ze55 (fun g2 => ?_)
  refine lNil ?_
  refine wSeq ?_
  refine wReg ?_
  refine sAlloc rfl rfl rfl rfl ze55 (fun g3 => ?_)
  refine lNil ?_
  refine wSeq ?_
  refine wSeq ?_
  refine wReg ?_
  refine sP rfl rfl rfl (pA rfl rfl) ?_
  refine lNil ?_
  refine wBlock ?_
  refine wLoop (fun mm L h => ∃ i T, mm = 16 - i ∧ i ≤ 16 ∧ T.length = 16 ∧ (∀ j, j < i → TopOk c j (vget T j)) ∧ L = [(1, .x (.pointer (some ⟨g1, 0, none⟩))), (2, .x (.pointer (some ⟨g2, 0, none⟩))), (3, .x (.pointer (some ⟨g3, 0, none⟩))), (4, iA (i : Nat))] ∧ h = [.cells g1 55 (encCt c), .cells g2 55 (iL zeroV ++ [.x (.slice none 0 0)]), .cells g3 55 (iL T ++ [AV.x (.slice none 0 0)])]) ⟨_, _, [.cells g1 55 (encCt c), .cells g2 55 (iL zeroV ++ [.x (.slice none 0 0)]), .cells g3 55 (iL zeroV ++ [AV.x (.slice none 0 0)])], _, ⟨0, zeroV, rfl, Nat.zero_le _, rfl, fun j hj => absurd hj (by omega), rfl, rfl⟩, ⟨rfl, rfl, rfl, rfl, trivial⟩, rfl⟩ ?_
  rintro mm L h ⟨i, T, rfl, hi, hT, hTop, rfl, rfl⟩
  refine wSeq ?_
  refine wSeq ?_
  refine wReg ?_
  refine sP rfl rfl rfl (pM rfl rfl) ?_
  refine sP rfl rfl rfl (p_icmp rfl rfl rfl rfl) ?_
  refine lNil ?_
  refine wCond rfl (fun hc1 => ?_) (fun hc1 => ?_)
  · have hi16 : i < 16 := by have h := hc1; simp at h; omega
    have hxc : c.1[i]? = some (vget c.1 i) := vget_at (r := (i : Int)) hv (by omega) (by omega)
    refine wSkip ?_
    refine wSeq ?_
    refine wBlock ?_
    refine wSeq ?_
    refine wReg ?_
    refine sP rfl rfl rfl (pM rfl rfl) ?_
    refine sP rfl rfl rfl (pM rfl rfl) ?_
    refine sP rfl rfl rfl (p_fieldAddr_own rfl rfl fl55_0 ty53 (by decide)) ?_
    refine sP rfl rfl rfl (p_indexAddr_arr rfl rfl Try.underlying53 ty3 rfl (i := i) rfl hi16) ?_
    refine sP rfl rfl rfl (pLdO1 0 rfl rfl rfl ty3 (ctx_at hxc)) ?_
    refine sP rfl rfl rfl (p_min rfl rfl rfl) ?_
    refine sP rfl rfl rfl (p_max rfl rfl rfl) ?_
    refine sP rfl rfl rfl (p_fieldAddr_own rfl rfl fl55_0 ty53 (by decide)) ?_
    refine sP rfl rfl rfl (p_indexAddr_arr rfl rfl Try.underlying53 ty3 rfl (i := i) rfl hi16) ?_
    refine sStore1 2 rfl rfl rfl rfl rfl ty3 rfl rfl (by rw [ctx_len hT]; omega) ?_
    refine lNil ?_
    refine wKeep [(1, .x (.pointer (some ⟨g1, 0, none⟩))), (2, .x (.pointer (some ⟨g2, 0, none⟩))), (3, .x (.pointer (some ⟨g3, 0, none⟩))), (4, iA (i : Nat))] [.cells g1 55 (encCt c), .cells g2 55 (iL zeroV ++ [.x (.slice none 0 0)]), .cells g3 55 (iL (T.set i (clampI (vget c.1 i))) ++ [AV.x (.slice none 0 0)])] [] ⟨rfl, rfl, rfl, rfl, trivial⟩ (by
    show [_, _, HObj.cells g3 _ ((iL T ++ _).set (0 + i * 1) (iA (clampI (vget c.1 i))))] = _
    rw [ctx_set (by omega)]
    rfl) ?_
    refine wBlock ?_
    refine wLoop (fun mm L h => ∃ T2, mm = (1099511627776 - vget T2 i).toNat ∧ T2.length = 16 ∧ (∀ j, j < i → TopOk c j (vget T2 j)) ∧ Up c i (vget T2 i) ∧ L = [(1, .x (.pointer (some ⟨g1, 0, none⟩))), (2, .x (.pointer (some ⟨g2, 0, none⟩))), (3, .x (.pointer (some ⟨g3, 0, none⟩))), (4, iA (i : Nat))] ∧ h = [.cells g1 55 (encCt c), .cells g2 55 (iL zeroV ++ [.x (.slice none 0 0)]), .cells g3 55 (iL T2 ++ [AV.x (.slice none 0 0)])]) ⟨_, _, [.cells g1 55 (encCt c), .cells g2 55 (iL zeroV ++ [.x (.slice none 0 0)]), .cells g3 55 (iL (T.set i (clampI (vget c.1 i))) ++ [AV.x (.slice none 0 0)])], _, ⟨T.set i (clampI (vget c.1 i)), rfl, by rw [List.length_set]; exact hT, fun j hj => by rw [vset_ne (by omega) (by omega)]; exact hTop j hj, by rw [vset_eq (by omega)]; exact Up.start c hi16, rfl, rfl⟩, ⟨rfl, rfl, rfl, rfl, trivial⟩, rfl⟩ ?_
    rintro mm L h ⟨T2, rfl, hT2, hTop2, hup, rfl, rfl⟩
    have hxT : T2[i]? = some (vget T2 i) := vget_at (r := (i : Int)) hT2 (by omega) (by omega)
    have hur := hup.rng
    refine wSeq ?_
    refine wSeq ?_
    refine wDraw 9 (by kernel_rfl) (by kernel_rfl) ?_
    refine sP rfl rfl rfl (pLdW 0 rfl rfl rfl ty55 (ctx_len hv)) ?_
    refine sP rfl rfl rfl (pM rfl rfl) ?_
    refine sP rfl rfl rfl (pM rfl rfl) ?_
    refine sP rfl rfl rfl (p_fieldAddr_own rfl rfl fl55_0 ty53 (by decide)) ?_
    refine sP rfl rfl rfl (p_indexAddr_arr rfl rfl Try.underlying53 ty3 rfl (i := i) rfl hi16) ?_
    refine sP rfl rfl rfl (pLdO1 2 rfl rfl rfl ty3 (ctx_at hxT)) ?_
    refine sP rfl rfl rfl (p_iar rfl rfl rfl (by show some _ = some _; rw [wrapI (by omega) (by omega)])) ?_
    refine sP rfl rfl rfl (p_build (res := [iA (i : Nat), iA ((vget T2 i) + 1)]) rfl ze23 pl23 rfl rfl) ?_
    refine sP rfl rfl rfl (p_call rfl (rchas_p c ((i : Int), (vget T2 i) + 1) hv hn) ⟨Sub.refl, Sub.refl, trivial⟩) ?_
    refine lTail ?_
    refine lNil ?_
    refine wCond rfl (fun hc2 => ?_) (fun hc2 => ?_)
    · refine wSkip ?_
      refine wBlock ?_
      refine wReg ?_
      refine sP rfl rfl rfl (pM rfl rfl) ?_
      refine sP rfl rfl rfl (p_fieldAddr_own rfl rfl fl55_0 ty53 (by decide)) ?_
      refine sP rfl rfl rfl (p_indexAddr_arr rfl rfl Try.underlying53 ty3 rfl (i := i) rfl hi16) ?_
      refine sP rfl rfl rfl (pLdO1 2 rfl rfl rfl ty3 (ctx_at hxT)) ?_
      refine sP rfl rfl rfl (p_iar rfl rfl rfl (by show some _ = some _; rw [wrapI (by omega) (by omega)])) ?_
      refine sP rfl rfl rfl (p_fieldAddr_own rfl rfl fl55_0 ty53 (by decide)) ?_
      refine sP rfl rfl rfl (p_indexAddr_arr rfl rfl Try.underlying53 ty3 rfl (i := i) rfl hi16) ?_
      refine sStore1 2 rfl rfl rfl rfl rfl ty3 rfl rfl (by rw [ctx_len hT2]; omega) ?_
      refine lNil ?_
      have hlt2 := hup.lt hc2
      refine ⟨_, _, [.cells g1 55 (encCt c), .cells g2 55 (iL zeroV ++ [.x (.slice none 0 0)]), .cells g3 55 (iL (T2.set i ((vget T2 i) + 1)) ++ [AV.x (.slice none 0 0)])], [], ?_, ⟨T2.set i ((vget T2 i) + 1), rfl, by rw [List.length_set]; exact hT2, fun j hj => by rw [vset_ne (by omega) (by omega)]; exact hTop2 j hj, by rw [vset_eq (by omega)]; exact hup.step hc2, rfl, rfl⟩, ⟨rfl, rfl, rfl, rfl, trivial⟩, ?_⟩
      · rw [vset_eq (by omega)]; omega
      · show [_, _, HObj.cells g3 _ ((iL T2 ++ _).set (0 + i * 1) (iA ((vget T2 i) + 1)))] = _
        rw [ctx_set (by omega)]
        rfl
    · refine wExit ?_
      refine wReg ?_
      refine sP rfl rfl rfl (pM rfl rfl) ?_
      refine sP rfl rfl rfl (p_iar rfl rfl rfl rfl) ?_
      refine sP rfl rfl rfl (pA rfl rfl) ?_
      refine lNil ?_
      refine ⟨_, _, [.cells g1 55 (encCt c), .cells g2 55 (iL zeroV ++ [.x (.slice none 0 0)]), .cells g3 55 (iL T2 ++ [AV.x (.slice none 0 0)])], [], ?_, ⟨i + 1, T2, rfl, hi16, hT2, fun j hj => ?_, rfl, rfl⟩, ⟨rfl, rfl, rfl, avI (wrapI (by omega) (by omega)), trivial⟩, rfl⟩
      · omega
      · by_cases hji : j = i
        · subst hji; exact ⟨hup, hc2⟩
        · exact hTop2 j (by omega)
  · have hge : i = 16 := by have h := hc1; simp at h; omega
    subst hge
    refine wExit ?_
    refine wSeq ?_
    refine wReg ?_
    refine sP rfl rfl rfl (p_fieldAddr_own rfl rfl fl55_1 ty27 (by decide)) ?_
    refine sP rfl rfl rfl (pLdO1 0 rfl rfl rfl ty27 (ctx_C hv)) ?_
    refine sP rfl rfl rfl (p_call rfl (rdsort_p c.2 hn) ⟨Sub.refl, trivial⟩) ?_
    refine sP rfl rfl rfl (pAs rfl rfl) ?_
    refine lNil ?_
    refine wNilrow 23 2 ?_
    refine wSeq ?_
    refine wSeq ?_
    refine wReg ?_
    refine sP rfl rfl rfl (pA rfl rfl) ?_
    refine lNil ?_
    refine wBlock ?_
    refine wLoop (fun mm L h => ∃ k v, mm = (sortK ltD c.2).length - k ∧ k ≤ (sortK ltD c.2).length ∧ L = [(2, .x (.pointer (some ⟨g2, 0, none⟩))), (3, .x (.pointer (some ⟨g3, 0, none⟩))), (5, slD (sortK ltD c.2)), (6, iA (k : Nat))] ∧ h = [.cells g1 55 (encCt c), .cells g2 55 (iL zeroV ++ [.x (.slice none 0 0)]), .cells g3 55 (iL T ++ [AV.x v]), .row v 23 2 (restTo c T k).length ((restTo c T k).flatMap encA)]) ⟨_, _, [.cells g1 55 (encCt c), .cells g2 55 (iL zeroV ++ [.x (.slice none 0 0)]), .cells g3 55 (iL T ++ [AV.x (.slice none 0 0)]), .row (.slice none 0 0) 23 2 0 []], _, ⟨0, .slice none 0 0, rfl, Nat.zero_le _, rfl, rfl⟩, ⟨rfl, rfl, rfl, rfl, trivial⟩, rfl⟩ ?_
    rintro mm L h ⟨k, v, rfl, hk, rfl, rfl⟩
    refine wSeq ?_
    refine wSeq ?_
    refine wReg ?_
    refine sP rfl rfl rfl (pM rfl rfl) ?_
    refine sP rfl rfl rfl (pMs rfl rfl) ?_
    refine sP rfl rfl rfl (p_len_sl rfl rfl Try.underlying27) ?_
    refine sP rfl rfl rfl (p_icmp rfl rfl rfl rfl) ?_
    refine lNil ?_
    refine wCond rfl (fun hc3 => ?_) (fun hc3 => ?_)
    · have hlt : k < (sortK ltD c.2).length := by simpa using hc3
      obtain ⟨d, hd⟩ := getL hlt
      have hln : (sortK ltD c.2).length ≤ c.2.length := sortK_length_le _
      refine wSkip ?_
      refine wSeq ?_
      refine wBlock ?_
      refine wCut (fun L h => ∃ b : Bool, b = (keepR T d) ∧ L = [(2, .x (.pointer (some ⟨g2, 0, none⟩))), (3, .x (.pointer (some ⟨g3, 0, none⟩))), (5, slD (sortK ltD c.2)), (6, iA (k : Nat)), (60, bA b)] ∧ h = [.cells g1 55 (encCt c), .cells g2 55 (iL zeroV ++ [.x (.slice none 0 0)]), .cells g3 55 (iL T ++ [AV.x v]), .row v 23 2 (restTo c T k).length ((restTo c T k).flatMap encA)]) ?_ ?_
      · rcases keep_cases T d with ⟨e1, hbv⟩ | ⟨e1, e2, hbv⟩ | ⟨e1, e2, hbv⟩
        · refine wDraw 16 (by kernel_rfl) (by kernel_rfl) ?_
          refine sP rfl rfl rfl (pMs rfl rfl) ?_
          refine sP rfl rfl rfl (pM rfl rfl) ?_
          refine sP rfl rfl rfl (pIdx k rfl rfl Try.underlying27 ty23 (by decide) rfl (fun _ => rfl) rfl rfl hd) ?_
          refine sP rfl rfl rfl (pLdE rfl rfl ty23 rfl) ?_
          refine sP rfl rfl rfl (p_call rfl (rdcheck_p d) ⟨Sub.refl, trivial⟩) ?_
          refine sP rfl rfl rfl (p_icmp rfl rfl rfl (eql0_f e1)) ?_
          refine sP rfl rfl rfl (pM rfl rfl) ?_
          refine sUx rfl rfl rfl (by decide) rfl rfl ?_
          refine sUx rfl rfl rfl (by decide) rfl rfl ?_
          refine sUx rfl rfl rfl (by decide) rfl rfl ?_
          refine sUx rfl rfl rfl (by decide) rfl rfl ?_
          refine sUx rfl rfl rfl (by decide) rfl rfl ?_
          refine sUx rfl rfl rfl (by decide) rfl rfl ?_
          refine sUx rfl rfl rfl (by decide) rfl rfl ?_
          refine sUx rfl rfl rfl (by decide) rfl rfl ?_
          refine sP rfl rfl rfl (p_pick rfl rfl rfl) ?_
          refine lTail ?_
          refine lNil ?_
          exact ⟨_, [.cells g1 55 (encCt c), .cells g2 55 (iL zeroV ++ [.x (.slice none 0 0)]), .cells g3 55 (iL T ++ [AV.x v]), .row v 23 2 (restTo c T k).length ((restTo c T k).flatMap encA)], _, ⟨_, (by exact hbv.symm), rfl, rfl⟩, ⟨rfl, rfl, rfl, rfl, rfl, trivial⟩, rfl⟩
        · refine wDraw 16 (by kernel_rfl) (by kernel_rfl) ?_
          refine sP rfl rfl rfl (pMs rfl rfl) ?_
          refine sP rfl rfl rfl (pM rfl rfl) ?_
          refine sP rfl rfl rfl (pIdx k rfl rfl Try.underlying27 ty23 (by decide) rfl (fun _ => rfl) rfl rfl hd) ?_
          refine sP rfl rfl rfl (pLdE rfl rfl ty23 rfl) ?_
          refine sP rfl rfl rfl (p_call rfl (rdcheck_p d) ⟨Sub.refl, trivial⟩) ?_
          refine sP rfl rfl rfl (p_icmp rfl rfl rfl (eql0_t e1)) ?_
          refine sP rfl rfl rfl (pM rfl rfl) ?_
          refine sG rfl rfl rfl rfl rfl (p_fieldAddr_own rfl rfl fl55_0 ty53 (by decide)) ?_
          refine sG rfl rfl rfl rfl rfl (pLdO 2 rfl rfl rfl ty53 (ctx_le hT) (ctx_V hT)) ?_
          refine sG rfl rfl rfl rfl rfl (pMs rfl rfl) ?_
          refine sG rfl rfl rfl rfl rfl (pM rfl rfl) ?_
          refine sG rfl rfl rfl rfl rfl (pIdx k rfl rfl Try.underlying27 ty23 (by decide) rfl (fun _ => rfl) rfl rfl hd) ?_
          refine sG rfl rfl rfl rfl rfl (pLdE rfl rfl ty23 rfl) ?_
          refine sG rfl rfl rfl rfl rfl (p_call rfl (rvhas_is hT e2) ⟨Sub.refl, Sub.refl, trivial⟩) ?_
          refine sG rfl rfl rfl rfl rfl (p_not rfl rfl) ?_
          refine sP rfl rfl rfl (p_pick rfl rfl rfl) ?_
          refine lTail ?_
          refine lNil ?_
          exact ⟨_, [.cells g1 55 (encCt c), .cells g2 55 (iL zeroV ++ [.x (.slice none 0 0)]), .cells g3 55 (iL T ++ [AV.x v]), .row v 23 2 (restTo c T k).length ((restTo c T k).flatMap encA)], _, ⟨_, (by exact hbv.symm), rfl, rfl⟩, ⟨rfl, rfl, rfl, rfl, rfl, trivial⟩, rfl⟩
        · refine wDraw 16 (by kernel_rfl) (by kernel_rfl) ?_
          refine sP rfl rfl rfl (pMs rfl rfl) ?_
          refine sP rfl rfl rfl (pM rfl rfl) ?_
          refine sP rfl rfl rfl (pIdx k rfl rfl Try.underlying27 ty23 (by decide) rfl (fun _ => rfl) rfl rfl hd) ?_
          refine sP rfl rfl rfl (pLdE rfl rfl ty23 rfl) ?_
          refine sP rfl rfl rfl (p_call rfl (rdcheck_p d) ⟨Sub.refl, trivial⟩) ?_
          refine sP rfl rfl rfl (p_icmp rfl rfl rfl (eql0_t e1)) ?_
          refine sP rfl rfl rfl (pM rfl rfl) ?_
          refine sG rfl rfl rfl rfl rfl (p_fieldAddr_own rfl rfl fl55_0 ty53 (by decide)) ?_
          refine sG rfl rfl rfl rfl rfl (pLdO 2 rfl rfl rfl ty53 (ctx_le hT) (ctx_V hT)) ?_
          refine sG rfl rfl rfl rfl rfl (pMs rfl rfl) ?_
          refine sG rfl rfl rfl rfl rfl (pM rfl rfl) ?_
          refine sG rfl rfl rfl rfl rfl (pIdx k rfl rfl Try.underlying27 ty23 (by decide) rfl (fun _ => rfl) rfl rfl hd) ?_
          refine sG rfl rfl rfl rfl rfl (pLdE rfl rfl ty23 rfl) ?_
          refine sG rfl rfl rfl rfl rfl (p_call rfl (rvhas_is hT e2) ⟨Sub.refl, Sub.refl, trivial⟩) ?_
          refine sG rfl rfl rfl rfl rfl (p_not rfl rfl) ?_
          refine sP rfl rfl rfl (p_pick rfl rfl rfl) ?_
          refine lTail ?_
          refine lNil ?_
          exact ⟨_, [.cells g1 55 (encCt c), .cells g2 55 (iL zeroV ++ [.x (.slice none 0 0)]), .cells g3 55 (iL T ++ [AV.x v]), .row v 23 2 (restTo c T k).length ((restTo c T k).flatMap encA)], _, ⟨_, (by exact hbv.symm), rfl, rfl⟩, ⟨rfl, rfl, rfl, rfl, rfl, trivial⟩, rfl⟩
      · rintro L h ⟨b, hb, rfl, rfl⟩
        refine wCond rfl (fun hc4 => ?_) (fun hc4 => ?_)
        · refine wDrawT 7 (by kernel_rfl) (by kernel_rfl) ?_
          refine sP rfl rfl rfl (p_fieldAddr_own rfl rfl fl55_1 ty27 (by decide)) ?_
          refine sP rfl rfl rfl (pLdO1 2 rfl rfl rfl ty27 (ctx_C hT)) ?_
          refine sP rfl rfl rfl (pMs rfl rfl) ?_
          refine sP rfl rfl rfl (pM rfl rfl) ?_
          refine sP rfl rfl rfl (pIdx k rfl rfl Try.underlying27 ty23 (by decide) rfl (fun _ => rfl) rfl rfl hd) ?_
          refine sP rfl rfl rfl (pLdE rfl rfl ty23 rfl) ?_
          refine sP rfl rfl rfl (p_buildSlice (res := [d].flatMap encA) rfl ze23 Try.underlying27 ty23 (by decide) (by decide) rfl rfl rfl) ?_
          refine lTail ?_
          refine sAppendL (enc := encA) (l := restTo c T k) 3 [d] rfl rfl rfl rfl Try.underlying27 ro23 rfl rfl rfl (fun _ => rfl) (by have := restTo_len c T k; rw [List.length_singleton]; omega) (by have := restTo_len c T k; rw [List.length_singleton]; omega) (fun v68 => ?_)
          refine sP rfl rfl rfl (p_fieldAddr_own rfl rfl fl55_1 ty27 (by decide)) ?_
          refine sStoreRow 2 3 rfl rfl rfl rfl rfl rfl ty27 rfl (by rw [ctx_len hT]; omega) ?_
          refine lNil ?_
          refine wReg ?_
          refine sP rfl rfl rfl (pM rfl rfl) ?_
          refine sP rfl rfl rfl (p_iar rfl rfl rfl rfl) ?_
          refine sP rfl rfl rfl (pA rfl rfl) ?_
          refine lNil ?_
          have hk2 : keepR T d = true := hb.symm.trans hc4
          refine ⟨_, _, [.cells g1 55 (encCt c), .cells g2 55 (iL zeroV ++ [.x (.slice none 0 0)]), .cells g3 55 (iL T ++ [AV.x v68]), .row v68 23 2 (restTo c T (k + 1)).length ((restTo c T (k + 1)).flatMap encA)], [], ?_, ⟨k + 1, v68, rfl, hlt, rfl, rfl⟩, ⟨rfl, rfl, rfl, avI (wrapI (by omega) (by omega)), trivial⟩, ?_⟩
          · omega
          · show [_, _, HObj.cells g3 _ ((iL T ++ _).set 16 (AV.x v68)), _] = _
            rw [ctx_setC hT, restTo_yes hd hk2]
            rfl
        · refine wSkip ?_
          refine wReg ?_
          refine sP rfl rfl rfl (pM rfl rfl) ?_
          refine sP rfl rfl rfl (p_iar rfl rfl rfl rfl) ?_
          refine sP rfl rfl rfl (pA rfl rfl) ?_
          refine lNil ?_
          have hk2 : keepR T d = false := hb.symm.trans hc4
          refine ⟨_, _, [.cells g1 55 (encCt c), .cells g2 55 (iL zeroV ++ [.x (.slice none 0 0)]), .cells g3 55 (iL T ++ [AV.x v]), .row v 23 2 (restTo c T (k + 1)).length ((restTo c T (k + 1)).flatMap encA)], [], ?_, ⟨k + 1, v, rfl, hlt, rfl, rfl⟩, ⟨rfl, rfl, rfl, avI (wrapI (by omega) (by omega)), trivial⟩, ?_⟩
          · omega
          · rw [restTo_no hd hk2]; rfl
    · have hge : k = (sortK ltD c.2).length := by
        have h : ¬ k < (sortK ltD c.2).length := by simpa using hc3
        omega
      subst hge
      rw [restTo_all]
      refine wExit ?_
      refine wSeq ?_
      refine wReg ?_
      refine sP rfl rfl rfl (pLdW 2 rfl rfl rfl ty55 (ctx_len hT)) ?_
      refine sFreezeE 3 70 16 rfl rfl (ctx_C hT) (ctx_setC hT) ?_
      refine sStore 1 rfl rfl rfl rfl rfl ty55 rfl (ctx_ones hT) (ctx_len hT) (Nat.le_of_ble_eq_true rfl) ?_
      refine lNil ?_
      refine wRet ?_
      rw [← clean_R hv hT hTop]
      have hsp : spl (iL zeroV ++ [.x (.slice none 0 0)]) 0 (iL T ++ [slD (restR c T)]) = encCt (T, restR c T) := ctx_spl rfl (ctx_len hT)
      exact rgs1 (rg_cell rfl (List.mem_of_getElem? (i := 1) rfl) ty55 (.inl ⟨rfl, by rw [hsp]; exact Nat.le_of_eq (ctx_len hT).symm, rfl⟩) (gives_sub (Sub.of_eq (by rw [hsp]; exact congrArg AV.agg (List.take_of_length_le (l := encCt (T, restR c T)) (Nat.le_of_eq (ctx_len hT)))))))
end Go.Proofs.Ytmhkalalcmkpbaa

namespace Go.Proofs.Ytmhkalalcmkpbaa
open Go Go.RowKit
set_option linter.unusedVariables false
set_option linter.unusedSimpArgs false

def takeD (A : CtxT) (i : Nat) (l : List (Int × Int)) (d : Int × Int) : Bool := decide (d.1 = (i : Int)) && (!hasC A d && decide ((l.length : Int) < 4096))
theorem take_cases (A : CtxT) (i : Nat) (l : List (Int × Int)) (d : Int × Int) : (d.1 ≠ (i : Int) ∧ takeD A i l d = false) ∨ (d.1 = (i : Int) ∧ hasC A d = true ∧ takeD A i l d = false) ∨ (d.1 = (i : Int) ∧ hasC A d = false ∧ (l.length : Int) < 4096 ∧ takeD A i l d = true) ∨ (d.1 = (i : Int) ∧ hasC A d = false ∧ ¬ (l.length : Int) < 4096 ∧ takeD A i l d = false) := by
  unfold takeD
  by_cases h1 : d.1 = (i : Int)
  · cases h : hasC A d with
    | true => exact .inr (.inl ⟨h1, rfl, by simp⟩)
    | false =>
      by_cases h2 : (l.length : Int) < 4096
      · exact .inr (.inr (.inl ⟨h1, rfl, h2, by rw [decide_eq_true h1, decide_eq_true h2]; rfl⟩))
      · exact .inr (.inr (.inr ⟨h1, rfl, h2, by rw [decide_eq_false h2]; simp⟩))
  · exact .inl ⟨h1, by rw [decide_eq_false h1]; rfl⟩
theorem m3_yes {A : CtxT} {P l : List (Int × Int)} {i k : Nat} {d : Int × Int} (hd : l[k]? = some d) (h : takeD A i (lackT A (P ++ atRep i (l.take k))) d = true) : lackT A (P ++ atRep i (l.take (k + 1))) = lackT A (P ++ atRep i (l.take k)) ++ [d] := by
  unfold takeD at h
  rw [Bool.and_eq_true, Bool.and_eq_true, decide_eq_true_eq, decide_eq_true_eq, Bool.not_eq_true'] at h
  rw [atRep_take hd, if_pos h.1, ← List.append_assoc, lackT_yes h.2.1 (by have := h.2.2; omega)]
theorem m3_no {A : CtxT} {P l : List (Int × Int)} {i k : Nat} {d : Int × Int} (hd : l[k]? = some d) (h : takeD A i (lackT A (P ++ atRep i (l.take k))) d = false) : lackT A (P ++ atRep i (l.take (k + 1))) = lackT A (P ++ atRep i (l.take k)) := by
  rw [atRep_take hd]
  rcases take_cases A i (lackT A (P ++ atRep i (l.take k))) d with ⟨e1, _⟩ | ⟨e1, e2, _⟩ | ⟨e1, e2, e3, e4⟩ | ⟨e1, e2, e3, _⟩
  · rw [if_neg e1]
  · rw [if_pos e1, ← List.append_assoc, lackT_no e2]
  · rw [h] at e4; cases e4
  · rw [if_pos e1, ← List.append_assoc, lackT_full (by omega)]
theorem rchas_is {c : CtxT} {d : Int × Int} {b : Bool} (hv : c.1.length = 16) (hn : c.2.length < 1000000) (h : hasC c d = b) : PFn Try.prog False 33 [ctA c, dA d] (bA b) := h ▸ rchas_p c d hv hn
theorem eqli_t {a b : Int} (h : a = b) : icmp .eql a b = some true := congrArg some (decide_eq_true h)
theorem eqli_f {a b : Int} (h : a ≠ b) : icmp .eql a b = some false := congrArg some (decide_eq_false h)

set_option maxRecDepth 100000 in
theorem rcadd_p (c : CtxT) (l : List (Int × Int)) (hv : c.1.length = 16) (hn : c.2.length < 500000) (hl : l.length < 500000) : PFn Try.prog False 54 [ctA c, slD l] (ctA (addF c l)) := by
  refine pfn Try.func54 rfl (by kernel_rfl) 18 rfl _ rfl (Nat.le_of_ble_eq_true rfl) (fun X w0 => ?_)
  refine wSeq ?_
  refine wReg ?_
  refine sBox rfl rfl rfl rfl rfl (fun g2 => ?_)
  refine sAlloc rfl rfl rfl rfl ze55 (fun g4 => ?_)
  refine lNil ?_
  refine wSeq ?_
  refine wReg ?_
  refine sP rfl rfl rfl (pA rfl rfl) ?_
  refine lNil ?_
  refine wNilrow 23 2 ?_
  refine wSeq ?_
  refine wReg ?_
  refine sP rfl rfl rfl (pM rfl rfl) ?_
  refine sP rfl rfl rfl (p_fieldAddr_own rfl rfl fl55_1 ty27 (by decide)) ?_
  refine sP rfl rfl rfl (pLdO1 0 rfl rfl rfl ty27 (ctx_C hv)) ?_
  refine sAppendL (enc := encA) (l := ([] : List (Int × Int))) 2 c.2 rfl rfl rfl rfl Try.underlying27 ro23 rfl rfl rfl (fun _ => rfl) (by simp only [List.nil_append, List.length_nil]; omega) (by simp only [List.nil_append, List.length_nil]; omega) (fun v9 => ?_)
  refine sP rfl rfl rfl (pA rfl rfl) ?_
  refine lNil ?_
  refine wSeq ?_
  refine wReg ?_
  refine sP rfl rfl rfl (pM rfl rfl) ?_
  refine sP rfl rfl rfl (pMs rfl rfl) ?_
  refine sAppendL (enc := encA) (l := ([] ++ c.2 : List (Int × Int))) 2 l rfl rfl rfl rfl Try.underlying27 ro23 rfl rfl rfl (fun _ => rfl) (by simp only [List.nil_append, List.length_nil]; omega) (by simp only [List.nil_append, List.length_nil]; omega) (fun v12 => ?_)
  refine sP rfl rfl rfl (pA rfl rfl) ?_
  refine lNil ?_
  refine wFreeze 2 5 rfl rfl ?_
  refine wSeq ?_
  refine wReg ?_
  refine sP rfl rfl rfl (p_fieldAddr_own rfl rfl fl55_0 ty53 (by decide)) ?_
  refine sP rfl rfl rfl (pLdO 0 rfl rfl rfl ty53 (ctx_le hv) (ctx_V hv)) ?_
  refine sP rfl rfl rfl (pMs rfl rfl) ?_
  refine sP rfl rfl rfl (p_build (res := iL c.1 ++ [slD ([] ++ c.2 ++ l)]) rfl ze55 pl55 rfl (ctx_fill hv)) ?_
  refine sP rfl rfl rfl (p_call rfl (rcclean_p (c.1, c.2 ++ l) hv (by rw [List.length_append]; omega)) ⟨Sub.refl, trivial⟩) ?_
  refine sStore 1 rfl rfl rfl rfl rfl ty55 rfl (ctx_ones' (c := addF c l) (clean_add (c := c) hv l).len) (ctx_len' (c := addF c l) (clean_add (c := c) hv l).len) (Nat.le_of_ble_eq_true rfl) ?_
  refine lNil ?_
  refine wRet ?_
  have hcl := (clean_add (c := c) hv l).len
  have hsp : spl (iL zeroV ++ [.x (.slice none 0 0)]) 0 (encCt (addF c l)) = encCt (addF c l) := ctx_spl rfl (ctx_len' hcl)
  exact rgs1 (rg_cell rfl (List.mem_of_getElem? (i := 1) rfl) ty55 (.inl ⟨rfl, by show 17 ≤ (spl (iL zeroV ++ [.x (.slice none 0 0)]) 0 (encCt (addF c l))).length; rw [hsp]; exact Nat.le_of_eq (ctx_len' hcl).symm, rfl⟩) (gives_sub (Sub.of_eq (by show AV.agg ((spl (iL zeroV ++ [.x (.slice none 0 0)]) 0 (encCt (addF c l))).take 17) = _; rw [hsp]; exact congrArg AV.agg (List.take_of_length_le (Nat.le_of_eq (ctx_len' hcl)))))))
set_option maxRecDepth 100000 in
theorem rcjoin_p (y z : CtxT) (ha : y.1.length = 16) (hb : z.1.length = 16) (ha2 : y.2.length < 500000) (hb2 : z.2.length < 500000) : PFn Try.prog False 56 [ctA y, ctA z] (ctA (joinF y z)) := by
  refine pfn Try.func56 rfl (by kernel_rfl) 20 rfl _ rfl (Nat.le_of_ble_eq_true rfl) (fun X w0 => ?_)
  have hca := (clean_F ha).len
  have hcb := (clean_F hb).len
  have hla := clean_len y
  have hlb := clean_len z
  refine wSeq ?_
  refine wReg ?_
  refine sBox rfl rfl rfl rfl rfl (fun g2 => ?_)
  refine sBox rfl rfl rfl rfl rfl (fun g3 => ?_)
  refine sAlloc rfl rfl rfl rfl ze55 (fun g4 => ?_)
  refine lNil ?_
  refine wSeq ?_
  refine wReg ?_
  refine sP rfl rfl rfl (pLdW 0 rfl rfl rfl ty55 (ctx_len ha)) ?_
  refine sP rfl rfl rfl (p_call rfl (rcclean_p y ha (by omega)) ⟨Sub.refl, trivial⟩) ?_
  refine sStore 0 rfl rfl rfl rfl rfl ty55 rfl (ctx_ones' hca) (ctx_len' hca) (by show 0 + 17 ≤ _; rw [ctx_len' ha]; exact Nat.le_refl _) ?_
  refine lNil ?_
  refine wSeq ?_
  refine wReg ?_
  refine sP rfl rfl rfl (pLdW 1 rfl rfl rfl ty55 (ctx_len hb)) ?_
  refine sP rfl rfl rfl (p_call rfl (rcclean_p z hb (by omega)) ⟨Sub.refl, trivial⟩) ?_
  refine sStore 1 rfl rfl rfl rfl rfl ty55 rfl (ctx_ones' hcb) (ctx_len' hcb) (by show 0 + 17 ≤ _; rw [ctx_len' hb]; exact Nat.le_refl _) ?_
  refine lNil ?_
  refine wKeep [(2, nP g2), (3, nP g3), (4, nP g4)] [.cells g2 55 (encCt (cleanF y)), .cells g3 55 (encCt (cleanF z)), .cells g4 55 (iL zeroV ++ [.x (.slice none 0 0)])] [] ⟨rfl, rfl, rfl, trivial⟩ (by
    have e1 : spl (encCt y) 0 (encCt (cleanF y)) = encCt (cleanF y) := ctx_spl (ctx_len' ha) (ctx_len' hca)
    have e2 : spl (encCt z) 0 (encCt (cleanF z)) = encCt (cleanF z) := ctx_spl (ctx_len' hb) (ctx_len' hcb)
    show [HObj.cells g2 _ (spl (encCt y) 0 (encCt (cleanF y))), HObj.cells g3 _ (spl (encCt z) 0 (encCt (cleanF z))), _] = _
    rw [e1, e2]
    rfl) ?_
  refine wSeq ?_
  refine wDraw 11 (by kernel_rfl) (by kernel_rfl) ?_
  refine sP rfl rfl rfl (p_fieldAddr_own rfl rfl fl55_0 ty53 (by decide)) ?_
  refine sP rfl rfl rfl (pLdO 0 rfl rfl rfl ty53 (ctx_le hca) (ctx_V hca)) ?_
  refine sP rfl rfl rfl (p_fieldAddr_own rfl rfl fl55_0 ty53 (by decide)) ?_
  refine sP rfl rfl rfl (pLdO 1 rfl rfl rfl ty53 (ctx_le hcb) (ctx_V hcb)) ?_
  refine sP rfl rfl rfl (p_call rfl (rvjoin_p (cleanF y).1 (cleanF z).1 hca hcb) ⟨Sub.refl, Sub.refl, trivial⟩) ?_
  refine sP rfl rfl rfl (p_fieldAddr_own rfl rfl fl55_1 ty27 (by decide)) ?_
  refine sP rfl rfl rfl (pLdO1 0 rfl rfl rfl ty27 (ctx_C hca)) ?_
  refine sP rfl rfl rfl (p_build (res := iL (vmax (cleanF y).1 (cleanF z).1) ++ [slD (cleanF y).2]) rfl ze55 pl55 rfl (ctx_fill (vmax_len hca hcb))) ?_
  refine sP rfl rfl rfl (p_fieldAddr_own rfl rfl fl55_1 ty27 (by decide)) ?_
  refine sP rfl rfl rfl (pLdO1 1 rfl rfl rfl ty27 (ctx_C hcb)) ?_
  refine sP rfl rfl rfl (p_call rfl (rcadd_p (vmax (cleanF y).1 (cleanF z).1, (cleanF y).2) (cleanF z).2 (vmax_len hca hcb) (by show (cleanF y).2.length < 500000; omega) (by omega)) ⟨Sub.refl, Sub.refl, trivial⟩) ?_
  refine lTail ?_
  refine sStore 2 rfl rfl rfl rfl rfl ty55 rfl (ctx_ones' (c := joinF y z) (clean_join ha hb).len) (ctx_len' (c := joinF y z) (clean_join ha hb).len) (Nat.le_of_ble_eq_true rfl) ?_
  refine lNil ?_
  refine wRet ?_
  have hcl := (clean_join ha hb).len
  have hsp : spl (iL zeroV ++ [.x (.slice none 0 0)]) 0 (encCt (joinF y z)) = encCt (joinF y z) := ctx_spl rfl (ctx_len' hcl)
  exact rgs1 (rg_cell rfl (List.mem_of_getElem? (i := 2) rfl) ty55 (.inl ⟨rfl, by show 17 ≤ (spl (iL zeroV ++ [.x (.slice none 0 0)]) 0 (encCt (joinF y z))).length; rw [hsp]; exact Nat.le_of_eq (ctx_len' hcl).symm, rfl⟩) (gives_sub (Sub.of_eq (by show AV.agg ((spl (iL zeroV ++ [.x (.slice none 0 0)]) 0 (encCt (joinF y z))).take 17) = _; rw [hsp]; exact congrArg AV.agg (List.take_of_length_le (Nat.le_of_eq (ctx_len' hcl)))))))
set_option maxHeartbeats 1000000 in
set_option maxRecDepth 100000 in
theorem rcmiss_p (y z : CtxT) (ha : y.1.length = 16) (hb0 : z.1.length = 16) (ha2 : y.2.length < 1000000) (hb2 : z.2.length < 1000000) : PFn Try.prog False 59 [ctA y, ctA z] (slD (missF y z)) := by
  refine pfn Try.func59 rfl (by kernel_rfl) 86 rfl _ rfl (Nat.le_of_ble_eq_true rfl) (fun X w0 => ?_)
  have hca := (clean_F ha).len
  have hcb := (clean_F hb0).len
  have hla := clean_len y
  have hlb := clean_len z
  refine wSeq ?_
  refine wReg ?_
  refine sBox rfl rfl rfl rfl rfl (fun g2 => ?_)
  refine sBox rfl rfl rfl rfl rfl (fun g3 => ?_)
  refine sP rfl rfl rfl (pA rfl rfl) ?_
  refine lNil ?_
  refine wSeq ?_
  refine wReg ?_
  refine sP rfl rfl rfl (pLdW 0 rfl rfl rfl ty55 (ctx_len ha)) ?_
  refine sP rfl rfl rfl (p_call rfl (rcclean_p y ha ha2) ⟨Sub.refl, trivial⟩) ?_
  refine sStore 0 rfl rfl rfl rfl rfl ty55 rfl (ctx_ones' hca) (ctx_len' hca) (by show 0 + 17 ≤ _; rw [ctx_len' ha]; exact Nat.le_refl _) ?_
  refine lNil ?_
  refine wSeq ?_
  refine wReg ?_
  refine sP rfl rfl rfl (pLdW 1 rfl rfl rfl ty55 (ctx_len hb0)) ?_
  refine sP rfl rfl rfl (p_call rfl (rcclean_p z hb0 hb2) ⟨Sub.refl, trivial⟩) ?_
  refine sStore 1 rfl rfl rfl rfl rfl ty55 rfl (ctx_ones' hcb) (ctx_len' hcb) (by show 0 + 17 ≤ _; rw [ctx_len' hb0]; exact Nat.le_refl _) ?_
  refine lNil ?_
  refine wKeep [(2, nP g2), (3, nP g3)] [.cells g2 55 (encCt (cleanF y)), .cells g3 55 (encCt (cleanF z))] [] ⟨rfl, rfl, trivial⟩ (by
    have e1 : spl (encCt y) 0 (encCt (cleanF y)) = encCt (cleanF y) := ctx_spl (ctx_len' ha) (ctx_len' hca)
    have e2 : spl (encCt z) 0 (encCt (cleanF z)) = encCt (cleanF z) := ctx_spl (ctx_len' hb0) (ctx_len' hcb)
    show [HObj.cells g2 _ (spl (encCt y) 0 (encCt (cleanF y))), HObj.cells g3 _ (spl (encCt z) 0 (encCt (cleanF z)))] = _
    rw [e1, e2]
    rfl) ?_
  refine wSeq ?_
  refine wReg ?_
  refine sP rfl rfl rfl (pA rfl rfl) ?_
  refine lNil ?_
  refine wNilrow 23 2 ?_
  refine wSeq ?_
  refine wSeq ?_
  refine wReg ?_
  refine sP rfl rfl rfl (pA rfl rfl) ?_
  refine lNil ?_
  refine wBlock ?_
  refine wLoop (fun mm L h => ∃ i v, mm = 16 - i ∧ i ≤ 16 ∧ L = [(2, nP g2), (3, nP g3), (5, .x v), (6, iA (i : Nat))] ∧ h = [.cells g2 55 (encCt (cleanF y)), .cells g3 55 (encCt (cleanF z)), .row v 23 2 (lackT (cleanF y) (allC (cleanF y) (cleanF z) i)).length ((lackT (cleanF y) (allC (cleanF y) (cleanF z) i)).flatMap encA)]) ⟨_, _, [.cells g2 55 (encCt (cleanF y)), .cells g3 55 (encCt (cleanF z)), .row (.slice none 0 0) 23 2 0 []], _, ⟨0, .slice none 0 0, rfl, Nat.zero_le _, rfl, rfl⟩, ⟨rfl, rfl, rfl, rfl, trivial⟩, rfl⟩ ?_
  rintro mm L h ⟨i, v, rfl, hi, rfl, rfl⟩
  refine wSeq ?_
  refine wSeq ?_
  refine wReg ?_
  refine sP rfl rfl rfl (pM rfl rfl) ?_
  refine sP rfl rfl rfl (p_icmp rfl rfl rfl rfl) ?_
  refine lNil ?_
  refine wCond rfl (fun hc1 => ?_) (fun hc1 => ?_)
  · have hi16 : i < 16 := by have h := hc1; simp at h; omega
    have hxa : (cleanF y).1[i]? = some (vget (cleanF y).1 i) := vget_at (r := (i : Int)) hca (by omega) (by omega)
    have hxb : (cleanF z).1[i]? = some (vget (cleanF z).1 i) := vget_at (r := (i : Int)) hcb (by omega) (by omega)
    have hra := (clean_F ha).at_ i
    have hrb := (clean_F hb0).at_ i
    refine wSkip ?_
    refine wSeq ?_
    refine wBlock ?_
    refine wSeq ?_
    refine wSeq ?_
    refine wReg ?_
    refine sP rfl rfl rfl (pM rfl rfl) ?_
    refine sP rfl rfl rfl (p_fieldAddr_own rfl rfl fl55_0 ty53 (by decide)) ?_
    refine sP rfl rfl rfl (p_indexAddr_arr rfl rfl Try.underlying53 ty3 rfl (i := i) rfl hi16) ?_
    refine sP rfl rfl rfl (pLdO1 0 rfl rfl rfl ty3 (ctx_at hxa)) ?_
    refine sP rfl rfl rfl (p_iar rfl rfl rfl (by show some _ = some _; rw [wrapI (by omega) (by omega)])) ?_
    refine sP rfl rfl rfl (pA rfl rfl) ?_
    refine lNil ?_
    refine wBlock ?_
    refine wLoop (fun mm L h => ∃ n v, mm = (vget (cleanF z).1 i + 1 - n).toNat ∧ vget (cleanF y).1 i + 1 ≤ n ∧ (n ≤ vget (cleanF z).1 i + 1 ∨ n = vget (cleanF y).1 i + 1) ∧ L = [(2, nP g2), (3, nP g3), (5, .x v), (6, iA (i : Nat)), (7, iA n)] ∧ h = [.cells g2 55 (encCt (cleanF y)), .cells g3 55 (encCt (cleanF z)), .row v 23 2 (lackT (cleanF y) ((allC (cleanF y) (cleanF z) i) ++ ((rangeI (vget (cleanF y).1 i + 1) (n - 1)).map fun n => ((i : Int), n)))).length ((lackT (cleanF y) ((allC (cleanF y) (cleanF z) i) ++ ((rangeI (vget (cleanF y).1 i + 1) (n - 1)).map fun n => ((i : Int), n)))).flatMap encA)]) ⟨_, _, [.cells g2 55 (encCt (cleanF y)), .cells g3 55 (encCt (cleanF z)), .row v 23 2 (lackT (cleanF y) (allC (cleanF y) (cleanF z) i)).length ((lackT (cleanF y) (allC (cleanF y) (cleanF z) i)).flatMap encA)], _, ⟨vget (cleanF y).1 i + 1, v, rfl, Int.le_refl _, .inr rfl, rfl, by rw [rangeI_nil (by omega), List.map_nil, List.append_nil]⟩, ⟨rfl, rfl, rfl, rfl, rfl, trivial⟩, rfl⟩ ?_
    rintro mm L h ⟨n, v, rfl, hn1, hn2, rfl, rfl⟩
    refine wSeq ?_
    refine wCut (fun L h => ∃ b : Bool, b = (moreN n (vget (cleanF z).1 i) (lackT (cleanF y) ((allC (cleanF y) (cleanF z) i) ++ ((rangeI (vget (cleanF y).1 i + 1) (n - 1)).map fun n => ((i : Int), n))))) ∧ L = [(2, nP g2), (3, nP g3), (5, .x v), (6, iA (i : Nat)), (7, iA n), (33, bA b)] ∧ h = [.cells g2 55 (encCt (cleanF y)), .cells g3 55 (encCt (cleanF z)), .row v 23 2 (lackT (cleanF y) ((allC (cleanF y) (cleanF z) i) ++ ((rangeI (vget (cleanF y).1 i + 1) (n - 1)).map fun n => ((i : Int), n)))).length ((lackT (cleanF y) ((allC (cleanF y) (cleanF z) i) ++ ((rangeI (vget (cleanF y).1 i + 1) (n - 1)).map fun n => ((i : Int), n)))).flatMap encA)]) ?_ ?_
    · cases hb : (decide (n ≤ vget (cleanF z).1 i)) with
      | true =>
        refine wReg ?_
        refine sP rfl rfl rfl (pM rfl rfl) ?_
        refine sP rfl rfl rfl (pM rfl rfl) ?_
        refine sP rfl rfl rfl (p_fieldAddr_own rfl rfl fl55_0 ty53 (by decide)) ?_
        refine sP rfl rfl rfl (p_indexAddr_arr rfl rfl Try.underlying53 ty3 rfl (i := i) rfl hi16) ?_
        refine sP rfl rfl rfl (pLdO1 1 rfl rfl rfl ty3 (ctx_at hxb)) ?_
        refine sP rfl rfl rfl (p_icmp rfl rfl rfl (congrArg some hb)) ?_
        refine sP rfl rfl rfl (pM rfl rfl) ?_
        refine sG rfl rfl rfl rfl rfl (pM rfl rfl) ?_
        refine sG rfl rfl rfl rfl rfl (p_len_row rfl rfl (List.mem_of_getElem? (i := 2) rfl) Try.underlying27) ?_
        refine sG rfl rfl rfl rfl rfl (p_icmp rfl rfl rfl rfl) ?_
        refine sP rfl rfl rfl (p_pick rfl rfl rfl) ?_
        refine lNil ?_
        exact ⟨_, [.cells g2 55 (encCt (cleanF y)), .cells g3 55 (encCt (cleanF z)), .row v 23 2 (lackT (cleanF y) ((allC (cleanF y) (cleanF z) i) ++ ((rangeI (vget (cleanF y).1 i + 1) (n - 1)).map fun n => ((i : Int), n)))).length ((lackT (cleanF y) ((allC (cleanF y) (cleanF z) i) ++ ((rangeI (vget (cleanF y).1 i + 1) (n - 1)).map fun n => ((i : Int), n)))).flatMap encA)], [], ⟨_, (by exact (by unfold moreN; rw [hb]; rfl)), rfl, rfl⟩, ⟨rfl, rfl, rfl, rfl, rfl, rfl, trivial⟩, rfl⟩
      | false =>
        refine wReg ?_
        refine sP rfl rfl rfl (pM rfl rfl) ?_
        refine sP rfl rfl rfl (pM rfl rfl) ?_
        refine sP rfl rfl rfl (p_fieldAddr_own rfl rfl fl55_0 ty53 (by decide)) ?_
        refine sP rfl rfl rfl (p_indexAddr_arr rfl rfl Try.underlying53 ty3 rfl (i := i) rfl hi16) ?_
        refine sP rfl rfl rfl (pLdO1 1 rfl rfl rfl ty3 (ctx_at hxb)) ?_
        refine sP rfl rfl rfl (p_icmp rfl rfl rfl (congrArg some hb)) ?_
        refine sP rfl rfl rfl (pM rfl rfl) ?_
        refine sU rfl rfl rfl (by decide) rfl rfl ?_
        refine sU rfl rfl rfl (by decide) rfl rfl ?_
        refine sU rfl rfl rfl (by decide) rfl rfl ?_
        refine sP rfl rfl rfl (p_pick rfl rfl rfl) ?_
        refine lNil ?_
        exact ⟨_, [.cells g2 55 (encCt (cleanF y)), .cells g3 55 (encCt (cleanF z)), .row v 23 2 (lackT (cleanF y) ((allC (cleanF y) (cleanF z) i) ++ ((rangeI (vget (cleanF y).1 i + 1) (n - 1)).map fun n => ((i : Int), n)))).length ((lackT (cleanF y) ((allC (cleanF y) (cleanF z) i) ++ ((rangeI (vget (cleanF y).1 i + 1) (n - 1)).map fun n => ((i : Int), n)))).flatMap encA)], [], ⟨_, (by exact (by unfold moreN; rw [hb]; rfl)), rfl, rfl⟩, ⟨rfl, rfl, rfl, rfl, rfl, rfl, trivial⟩, rfl⟩
    · rintro L h ⟨b, hb, rfl, rfl⟩
      refine wCond rfl (fun hc2 => ?_) (fun hc2 => ?_)
      · obtain ⟨hle, hlt4⟩ := more_yes (hb.symm.trans hc2)
        refine wSkip ?_
        refine wSeq ?_
        refine wBlock ?_
        refine wSeq ?_
        refine wReg ?_
        refine sP rfl rfl rfl (pM rfl rfl) ?_
        refine sP rfl rfl rfl (pM rfl rfl) ?_
        refine sP rfl rfl rfl (p_build (res := [iA (i : Nat), iA n]) rfl ze23 pl23 rfl rfl) ?_
        refine sAlloc rfl rfl rfl rfl ze23 (fun g8 => ?_)
        refine sStore 3 rfl rfl rfl rfl rfl ty23 rfl rfl rfl (Nat.le_of_ble_eq_true rfl) ?_
        refine lNil ?_
        refine wSeq ?_
        refine wReg ?_
        refine sP rfl rfl rfl (pLdW 0 rfl rfl rfl ty55 (ctx_len hca)) ?_
        refine sP rfl rfl rfl (pLdW 3 rfl rfl rfl ty23 rfl) ?_
        refine sP rfl rfl rfl (p_call rfl (rchas_p (cleanF y) ((i : Int), n) hca (by omega)) ⟨Sub.refl, Sub.refl, trivial⟩) ?_
        refine sP rfl rfl rfl (p_not rfl rfl) ?_
        refine lNil ?_
        refine wCond rfl (fun hc3 => ?_) (fun hc3 => ?_)
        · refine wReg ?_
          refine sP rfl rfl rfl (pM rfl rfl) ?_
          refine sP rfl rfl rfl (pLdW 3 rfl rfl rfl ty23 rfl) ?_
          refine sP rfl rfl rfl (p_buildSlice (res := [((i : Int), n)].flatMap encA) rfl ze23 Try.underlying27 ty23 (by decide) (by decide) rfl rfl rfl) ?_
          refine sAppendL (enc := encA) (l := (lackT (cleanF y) ((allC (cleanF y) (cleanF z) i) ++ ((rangeI (vget (cleanF y).1 i + 1) (n - 1)).map fun n => ((i : Int), n))))) 2 [((i : Int), n)] rfl rfl rfl rfl Try.underlying27 ro23 rfl rfl rfl (fun _ => rfl) (by have := lackT_len (cleanF y) ((allC (cleanF y) (cleanF z) i) ++ ((rangeI (vget (cleanF y).1 i + 1) (n - 1)).map fun n => ((i : Int), n))); rw [List.length_singleton]; omega) (by have := lackT_len (cleanF y) ((allC (cleanF y) (cleanF z) i) ++ ((rangeI (vget (cleanF y).1 i + 1) (n - 1)).map fun n => ((i : Int), n))); rw [List.length_singleton]; omega) (fun v46 => ?_)
          refine sP rfl rfl rfl (pA rfl rfl) ?_
          refine lNil ?_
          refine wReg ?_
          refine sP rfl rfl rfl (pM rfl rfl) ?_
          refine sP rfl rfl rfl (p_iar rfl rfl rfl rfl) ?_
          refine sP rfl rfl rfl (pA rfl rfl) ?_
          refine lNil ?_
          refine ⟨_, _, [.cells g2 55 (encCt (cleanF y)), .cells g3 55 (encCt (cleanF z)), .row v46 23 2 (lackT (cleanF y) ((allC (cleanF y) (cleanF z) i) ++ ((rangeI (vget (cleanF y).1 i + 1) (n + 1 - 1)).map fun n => ((i : Int), n)))).length ((lackT (cleanF y) ((allC (cleanF y) (cleanF z) i) ++ ((rangeI (vget (cleanF y).1 i + 1) (n + 1 - 1)).map fun n => ((i : Int), n)))).flatMap encA)], [.cells g8 23 (encA ((i : Int), n))], ?_, ⟨n + 1, v46, rfl, by omega, .inl (by omega), rfl, rfl⟩, ⟨rfl, rfl, rfl, rfl, avI (wrapI (by omega) (by omega)), trivial⟩, ?_⟩
          · omega
          · rw [← range_next hn1, ← List.append_assoc, lackT_yes (by simpa using hc3) hlt4]; rfl
        · refine wSkip ?_
          refine wReg ?_
          refine sP rfl rfl rfl (pM rfl rfl) ?_
          refine sP rfl rfl rfl (p_iar rfl rfl rfl rfl) ?_
          refine sP rfl rfl rfl (pA rfl rfl) ?_
          refine lNil ?_
          refine ⟨_, _, [.cells g2 55 (encCt (cleanF y)), .cells g3 55 (encCt (cleanF z)), .row v 23 2 (lackT (cleanF y) ((allC (cleanF y) (cleanF z) i) ++ ((rangeI (vget (cleanF y).1 i + 1) (n + 1 - 1)).map fun n => ((i : Int), n)))).length ((lackT (cleanF y) ((allC (cleanF y) (cleanF z) i) ++ ((rangeI (vget (cleanF y).1 i + 1) (n + 1 - 1)).map fun n => ((i : Int), n)))).flatMap encA)], [.cells g8 23 (encA ((i : Int), n))], ?_, ⟨n + 1, v, rfl, by omega, .inl (by omega), rfl, rfl⟩, ⟨rfl, rfl, rfl, rfl, avI (wrapI (by omega) (by omega)), trivial⟩, ?_⟩
          · omega
          · rw [← range_next hn1, ← List.append_assoc, lackT_no (by simpa using hc3)]; rfl
      · have hex := range_exit (cleanF y) (allC (cleanF y) (cleanF z) i) i hn1 hn2 (more_no (hb.symm.trans hc2))
        refine wExit ?_
        refine wSeq ?_
        refine wReg ?_
        refine sP rfl rfl rfl (pA rfl rfl) ?_
        refine lNil ?_
        refine wBlock ?_
        refine wLoop (fun mm L h => ∃ k v, mm = (cleanF z).2.length - k ∧ k ≤ (cleanF z).2.length ∧ L = [(2, nP g2), (3, nP g3), (5, .x v), (6, iA (i : Nat)), (9, iA (k : Nat))] ∧ h = [.cells g2 55 (encCt (cleanF y)), .cells g3 55 (encCt (cleanF z)), .row v 23 2 (lackT (cleanF y) ((allC (cleanF y) (cleanF z) i) ++ ((rangeI (vget (cleanF y).1 i + 1) (vget (cleanF z).1 i)).map fun n => ((i : Int), n)) ++ atRep i ((cleanF z).2.take k))).length ((lackT (cleanF y) ((allC (cleanF y) (cleanF z) i) ++ ((rangeI (vget (cleanF y).1 i + 1) (vget (cleanF z).1 i)).map fun n => ((i : Int), n)) ++ atRep i ((cleanF z).2.take k))).flatMap encA)]) ⟨_, _, [.cells g2 55 (encCt (cleanF y)), .cells g3 55 (encCt (cleanF z)), .row v 23 2 (lackT (cleanF y) ((allC (cleanF y) (cleanF z) i) ++ ((rangeI (vget (cleanF y).1 i + 1) (n - 1)).map fun n => ((i : Int), n)))).length ((lackT (cleanF y) ((allC (cleanF y) (cleanF z) i) ++ ((rangeI (vget (cleanF y).1 i + 1) (n - 1)).map fun n => ((i : Int), n)))).flatMap encA)], _, ⟨0, v, rfl, Nat.zero_le _, rfl, by rw [show atRep i ((cleanF z).2.take 0) = [] from rfl, List.append_nil, ← hex]⟩, ⟨rfl, rfl, rfl, rfl, rfl, trivial⟩, rfl⟩ ?_
        rintro mm L h ⟨k, v, rfl, hk, rfl, rfl⟩
        refine wSeq ?_
        refine wSeq ?_
        refine wReg ?_
        refine sP rfl rfl rfl (pM rfl rfl) ?_
        refine sP rfl rfl rfl (p_fieldAddr_own rfl rfl fl55_1 ty27 (by decide)) ?_
        refine sP rfl rfl rfl (pLdO1 1 rfl rfl rfl ty27 (ctx_C hcb)) ?_
        refine sP rfl rfl rfl (p_len_sl rfl rfl Try.underlying27) ?_
        refine sP rfl rfl rfl (p_icmp rfl rfl rfl rfl) ?_
        refine lNil ?_
        refine wCond rfl (fun hc4 => ?_) (fun hc4 => ?_)
        · have hlt : k < (cleanF z).2.length := by simpa using hc4
          obtain ⟨d, hd⟩ := getL hlt
          refine wSkip ?_
          refine wSeq ?_
          refine wBlock ?_
          refine wCut (fun L h => ∃ b : Bool, b = (takeD (cleanF y) i (lackT (cleanF y) ((allC (cleanF y) (cleanF z) i) ++ ((rangeI (vget (cleanF y).1 i + 1) (vget (cleanF z).1 i)).map fun n => ((i : Int), n)) ++ atRep i ((cleanF z).2.take k))) d) ∧ L = [(2, nP g2), (3, nP g3), (5, .x v), (6, iA (i : Nat)), (9, iA (k : Nat)), (76, bA b)] ∧ h = [.cells g2 55 (encCt (cleanF y)), .cells g3 55 (encCt (cleanF z)), .row v 23 2 (lackT (cleanF y) ((allC (cleanF y) (cleanF z) i) ++ ((rangeI (vget (cleanF y).1 i + 1) (vget (cleanF z).1 i)).map fun n => ((i : Int), n)) ++ atRep i ((cleanF z).2.take k))).length ((lackT (cleanF y) ((allC (cleanF y) (cleanF z) i) ++ ((rangeI (vget (cleanF y).1 i + 1) (vget (cleanF z).1 i)).map fun n => ((i : Int), n)) ++ atRep i ((cleanF z).2.take k))).flatMap encA)]) ?_ ?_
          · rcases take_cases (cleanF y) i (lackT (cleanF y) ((allC (cleanF y) (cleanF z) i) ++ ((rangeI (vget (cleanF y).1 i + 1) (vget (cleanF z).1 i)).map fun n => ((i : Int), n)) ++ atRep i ((cleanF z).2.take k))) d with ⟨e1, hbv⟩ | ⟨e1, e2, hbv⟩ | ⟨e1, e2, e3, hbv⟩ | ⟨e1, e2, e3, hbv⟩
            · refine wDraw 23 (by kernel_rfl) (by kernel_rfl) ?_
              refine sP rfl rfl rfl (p_fieldAddr_own rfl rfl fl55_1 ty27 (by decide)) ?_
              refine sP rfl rfl rfl (pLdO1 1 rfl rfl rfl ty27 (ctx_C hcb)) ?_
              refine sP rfl rfl rfl (pM rfl rfl) ?_
              refine sP rfl rfl rfl (pIdx k rfl rfl Try.underlying27 ty23 (by decide) rfl (fun _ => rfl) rfl rfl hd) ?_
              refine sP rfl rfl rfl (p_fieldAddr_ip rfl rfl fl23_0 ty3 (by decide)) ?_
              refine sP rfl rfl rfl (pLd1 rfl rfl ty3) ?_
              refine sP rfl rfl rfl (pM rfl rfl) ?_
              refine sP rfl rfl rfl (p_icmp rfl rfl rfl (eqli_f e1)) ?_
              refine sP rfl rfl rfl (pM rfl rfl) ?_
              refine sUx rfl rfl rfl (by decide) rfl rfl ?_
              refine sUx rfl rfl rfl (by decide) rfl rfl ?_
              refine sUx rfl rfl rfl (by decide) rfl rfl ?_
              refine sUx rfl rfl rfl (by decide) rfl rfl ?_
              refine sUx rfl rfl rfl (by decide) rfl rfl ?_
              refine sUx rfl rfl rfl (by decide) rfl rfl ?_
              refine sUx rfl rfl rfl (by decide) rfl rfl ?_
              refine sUx rfl rfl rfl (by decide) rfl rfl ?_
              refine sP rfl rfl rfl (p_pick rfl rfl rfl) ?_
              refine sP rfl rfl rfl (pM rfl rfl) ?_
              refine sUx rfl rfl rfl (by decide) rfl rfl ?_
              refine sUx rfl rfl rfl (by decide) rfl rfl ?_
              refine sUx rfl rfl rfl (by decide) rfl rfl ?_
              refine sP rfl rfl rfl (p_pick rfl rfl rfl) ?_
              refine lTail ?_
              refine lNil ?_
              exact ⟨_, [.cells g2 55 (encCt (cleanF y)), .cells g3 55 (encCt (cleanF z)), .row v 23 2 (lackT (cleanF y) ((allC (cleanF y) (cleanF z) i) ++ ((rangeI (vget (cleanF y).1 i + 1) (vget (cleanF z).1 i)).map fun n => ((i : Int), n)) ++ atRep i ((cleanF z).2.take k))).length ((lackT (cleanF y) ((allC (cleanF y) (cleanF z) i) ++ ((rangeI (vget (cleanF y).1 i + 1) (vget (cleanF z).1 i)).map fun n => ((i : Int), n)) ++ atRep i ((cleanF z).2.take k))).flatMap encA)], _, ⟨_, (by exact hbv.symm), rfl, rfl⟩, ⟨rfl, rfl, rfl, rfl, rfl, rfl, trivial⟩, rfl⟩
            · refine wDraw 23 (by kernel_rfl) (by kernel_rfl) ?_
              refine sP rfl rfl rfl (p_fieldAddr_own rfl rfl fl55_1 ty27 (by decide)) ?_
              refine sP rfl rfl rfl (pLdO1 1 rfl rfl rfl ty27 (ctx_C hcb)) ?_
              refine sP rfl rfl rfl (pM rfl rfl) ?_
              refine sP rfl rfl rfl (pIdx k rfl rfl Try.underlying27 ty23 (by decide) rfl (fun _ => rfl) rfl rfl hd) ?_
              refine sP rfl rfl rfl (p_fieldAddr_ip rfl rfl fl23_0 ty3 (by decide)) ?_
              refine sP rfl rfl rfl (pLd1 rfl rfl ty3) ?_
              refine sP rfl rfl rfl (pM rfl rfl) ?_
              refine sP rfl rfl rfl (p_icmp rfl rfl rfl (eqli_t e1)) ?_
              refine sP rfl rfl rfl (pM rfl rfl) ?_
              refine sG rfl rfl rfl rfl rfl (pLdW 0 rfl rfl rfl ty55 (ctx_len hca)) ?_
              refine sG rfl rfl rfl rfl rfl (p_fieldAddr_own rfl rfl fl55_1 ty27 (by decide)) ?_
              refine sG rfl rfl rfl rfl rfl (pLdO1 1 rfl rfl rfl ty27 (ctx_C hcb)) ?_
              refine sG rfl rfl rfl rfl rfl (pM rfl rfl) ?_
              refine sG rfl rfl rfl rfl rfl (pIdx k rfl rfl Try.underlying27 ty23 (by decide) rfl (fun _ => rfl) rfl rfl hd) ?_
              refine sG rfl rfl rfl rfl rfl (pLdE rfl rfl ty23 rfl) ?_
              refine sG rfl rfl rfl rfl rfl (p_call rfl (rchas_is hca (by omega) e2) ⟨Sub.refl, Sub.refl, trivial⟩) ?_
              refine sG rfl rfl rfl rfl rfl (p_not rfl rfl) ?_
              refine sP rfl rfl rfl (p_pick rfl rfl rfl) ?_
              refine sP rfl rfl rfl (pM rfl rfl) ?_
              refine sUx rfl rfl rfl (by decide) rfl rfl ?_
              refine sUx rfl rfl rfl (by decide) rfl rfl ?_
              refine sUx rfl rfl rfl (by decide) rfl rfl ?_
              refine sP rfl rfl rfl (p_pick rfl rfl rfl) ?_
              refine lTail ?_
              refine lNil ?_
              exact ⟨_, [.cells g2 55 (encCt (cleanF y)), .cells g3 55 (encCt (cleanF z)), .row v 23 2 (lackT (cleanF y) ((allC (cleanF y) (cleanF z) i) ++ ((rangeI (vget (cleanF y).1 i + 1) (vget (cleanF z).1 i)).map fun n => ((i : Int), n)) ++ atRep i ((cleanF z).2.take k))).length ((lackT (cleanF y) ((allC (cleanF y) (cleanF z) i) ++ ((rangeI (vget (cleanF y).1 i + 1) (vget (cleanF z).1 i)).map fun n => ((i : Int), n)) ++ atRep i ((cleanF z).2.take k))).flatMap encA)], _, ⟨_, (by exact hbv.symm), rfl, rfl⟩, ⟨rfl, rfl, rfl, rfl, rfl, rfl, trivial⟩, rfl⟩
            · refine wDraw 23 (by kernel_rfl) (by kernel_rfl) ?_
              refine sP rfl rfl rfl (p_fieldAddr_own rfl rfl fl55_1 ty27 (by decide)) ?_
              refine sP rfl rfl rfl (pLdO1 1 rfl rfl rfl ty27 (ctx_C hcb)) ?_
              refine sP rfl rfl rfl (pM rfl rfl) ?_
              refine sP rfl rfl rfl (pIdx k rfl rfl Try.underlying27 ty23 (by decide) rfl (fun _ => rfl) rfl rfl hd) ?_
              refine sP rfl rfl rfl (p_fieldAddr_ip rfl rfl fl23_0 ty3 (by decide)) ?_
              refine sP rfl rfl rfl (pLd1 rfl rfl ty3) ?_
              refine sP rfl rfl rfl (pM rfl rfl) ?_
              refine sP rfl rfl rfl (p_icmp rfl rfl rfl (eqli_t e1)) ?_
              refine sP rfl rfl rfl (pM rfl rfl) ?_
              refine sG rfl rfl rfl rfl rfl (pLdW 0 rfl rfl rfl ty55 (ctx_len hca)) ?_
              refine sG rfl rfl rfl rfl rfl (p_fieldAddr_own rfl rfl fl55_1 ty27 (by decide)) ?_
              refine sG rfl rfl rfl rfl rfl (pLdO1 1 rfl rfl rfl ty27 (ctx_C hcb)) ?_
              refine sG rfl rfl rfl rfl rfl (pM rfl rfl) ?_
              refine sG rfl rfl rfl rfl rfl (pIdx k rfl rfl Try.underlying27 ty23 (by decide) rfl (fun _ => rfl) rfl rfl hd) ?_
              refine sG rfl rfl rfl rfl rfl (pLdE rfl rfl ty23 rfl) ?_
              refine sG rfl rfl rfl rfl rfl (p_call rfl (rchas_is hca (by omega) e2) ⟨Sub.refl, Sub.refl, trivial⟩) ?_
              refine sG rfl rfl rfl rfl rfl (p_not rfl rfl) ?_
              refine sP rfl rfl rfl (p_pick rfl rfl rfl) ?_
              refine sP rfl rfl rfl (pM rfl rfl) ?_
              refine sG rfl rfl rfl rfl rfl (pM rfl rfl) ?_
              refine sG rfl rfl rfl rfl rfl (p_len_row rfl rfl (List.mem_of_getElem? (i := 2) rfl) Try.underlying27) ?_
              refine sG rfl rfl rfl rfl rfl (p_icmp rfl rfl rfl (lssq_t e3)) ?_
              refine sP rfl rfl rfl (p_pick rfl rfl rfl) ?_
              refine lTail ?_
              refine lNil ?_
              exact ⟨_, [.cells g2 55 (encCt (cleanF y)), .cells g3 55 (encCt (cleanF z)), .row v 23 2 (lackT (cleanF y) ((allC (cleanF y) (cleanF z) i) ++ ((rangeI (vget (cleanF y).1 i + 1) (vget (cleanF z).1 i)).map fun n => ((i : Int), n)) ++ atRep i ((cleanF z).2.take k))).length ((lackT (cleanF y) ((allC (cleanF y) (cleanF z) i) ++ ((rangeI (vget (cleanF y).1 i + 1) (vget (cleanF z).1 i)).map fun n => ((i : Int), n)) ++ atRep i ((cleanF z).2.take k))).flatMap encA)], _, ⟨_, (by exact hbv.symm), rfl, rfl⟩, ⟨rfl, rfl, rfl, rfl, rfl, rfl, trivial⟩, rfl⟩
            · refine wDraw 23 (by kernel_rfl) (by kernel_rfl) ?_
              refine sP rfl rfl rfl (p_fieldAddr_own rfl rfl fl55_1 ty27 (by decide)) ?_
              refine sP rfl rfl rfl (pLdO1 1 rfl rfl rfl ty27 (ctx_C hcb)) ?_
              refine sP rfl rfl rfl (pM rfl rfl) ?_
              refine sP rfl rfl rfl (pIdx k rfl rfl Try.underlying27 ty23 (by decide) rfl (fun _ => rfl) rfl rfl hd) ?_
              refine sP rfl rfl rfl (p_fieldAddr_ip rfl rfl fl23_0 ty3 (by decide)) ?_
              refine sP rfl rfl rfl (pLd1 rfl rfl ty3) ?_
              refine sP rfl rfl rfl (pM rfl rfl) ?_
              refine sP rfl rfl rfl (p_icmp rfl rfl rfl (eqli_t e1)) ?_
              refine sP rfl rfl rfl (pM rfl rfl) ?_
              refine sG rfl rfl rfl rfl rfl (pLdW 0 rfl rfl rfl ty55 (ctx_len hca)) ?_
              refine sG rfl rfl rfl rfl rfl (p_fieldAddr_own rfl rfl fl55_1 ty27 (by decide)) ?_
              refine sG rfl rfl rfl rfl rfl (pLdO1 1 rfl rfl rfl ty27 (ctx_C hcb)) ?_
              refine sG rfl rfl rfl rfl rfl (pM rfl rfl) ?_
              refine sG rfl rfl rfl rfl rfl (pIdx k rfl rfl Try.underlying27 ty23 (by decide) rfl (fun _ => rfl) rfl rfl hd) ?_
              refine sG rfl rfl rfl rfl rfl (pLdE rfl rfl ty23 rfl) ?_
              refine sG rfl rfl rfl rfl rfl (p_call rfl (rchas_is hca (by omega) e2) ⟨Sub.refl, Sub.refl, trivial⟩) ?_
              refine sG rfl rfl rfl rfl rfl (p_not rfl rfl) ?_
              refine sP rfl rfl rfl (p_pick rfl rfl rfl) ?_
              refine sP rfl rfl rfl (pM rfl rfl) ?_
              refine sG rfl rfl rfl rfl rfl (pM rfl rfl) ?_
              refine sG rfl rfl rfl rfl rfl (p_len_row rfl rfl (List.mem_of_getElem? (i := 2) rfl) Try.underlying27) ?_
              refine sG rfl rfl rfl rfl rfl (p_icmp rfl rfl rfl (lssq_f e3)) ?_
              refine sP rfl rfl rfl (p_pick rfl rfl rfl) ?_
              refine lTail ?_
              refine lNil ?_
              exact ⟨_, [.cells g2 55 (encCt (cleanF y)), .cells g3 55 (encCt (cleanF z)), .row v 23 2 (lackT (cleanF y) ((allC (cleanF y) (cleanF z) i) ++ ((rangeI (vget (cleanF y).1 i + 1) (vget (cleanF z).1 i)).map fun n => ((i : Int), n)) ++ atRep i ((cleanF z).2.take k))).length ((lackT (cleanF y) ((allC (cleanF y) (cleanF z) i) ++ ((rangeI (vget (cleanF y).1 i + 1) (vget (cleanF z).1 i)).map fun n => ((i : Int), n)) ++ atRep i ((cleanF z).2.take k))).flatMap encA)], _, ⟨_, (by exact hbv.symm), rfl, rfl⟩, ⟨rfl, rfl, rfl, rfl, rfl, rfl, trivial⟩, rfl⟩
          · rintro L h ⟨b5, hb5, rfl, rfl⟩
            refine wCond rfl (fun hc5 => ?_) (fun hc5 => ?_)
            · refine wReg ?_
              refine sP rfl rfl rfl (pM rfl rfl) ?_
              refine sP rfl rfl rfl (p_fieldAddr_own rfl rfl fl55_1 ty27 (by decide)) ?_
              refine sP rfl rfl rfl (pLdO1 1 rfl rfl rfl ty27 (ctx_C hcb)) ?_
              refine sP rfl rfl rfl (pM rfl rfl) ?_
              refine sP rfl rfl rfl (pIdx k rfl rfl Try.underlying27 ty23 (by decide) rfl (fun _ => rfl) rfl rfl hd) ?_
              refine sP rfl rfl rfl (pLdE rfl rfl ty23 rfl) ?_
              refine sP rfl rfl rfl (p_buildSlice (res := [d].flatMap encA) rfl ze23 Try.underlying27 ty23 (by decide) (by decide) rfl rfl rfl) ?_
              refine sAppendL (enc := encA) (l := (lackT (cleanF y) ((allC (cleanF y) (cleanF z) i) ++ ((rangeI (vget (cleanF y).1 i + 1) (vget (cleanF z).1 i)).map fun n => ((i : Int), n)) ++ atRep i ((cleanF z).2.take k)))) 2 [d] rfl rfl rfl rfl Try.underlying27 ro23 rfl rfl rfl (fun _ => rfl) (by have := lackT_len (cleanF y) ((allC (cleanF y) (cleanF z) i) ++ ((rangeI (vget (cleanF y).1 i + 1) (vget (cleanF z).1 i)).map fun n => ((i : Int), n)) ++ atRep i ((cleanF z).2.take k)); rw [List.length_singleton]; omega) (by have := lackT_len (cleanF y) ((allC (cleanF y) (cleanF z) i) ++ ((rangeI (vget (cleanF y).1 i + 1) (vget (cleanF z).1 i)).map fun n => ((i : Int), n)) ++ atRep i ((cleanF z).2.take k)); rw [List.length_singleton]; omega) (fun v84 => ?_)
              refine sP rfl rfl rfl (pA rfl rfl) ?_
              refine lNil ?_
              refine wReg ?_
              refine sP rfl rfl rfl (pM rfl rfl) ?_
              refine sP rfl rfl rfl (p_iar rfl rfl rfl rfl) ?_
              refine sP rfl rfl rfl (pA rfl rfl) ?_
              refine lNil ?_
              refine ⟨_, _, [.cells g2 55 (encCt (cleanF y)), .cells g3 55 (encCt (cleanF z)), .row v84 23 2 (lackT (cleanF y) ((allC (cleanF y) (cleanF z) i) ++ ((rangeI (vget (cleanF y).1 i + 1) (vget (cleanF z).1 i)).map fun n => ((i : Int), n)) ++ atRep i ((cleanF z).2.take (k + 1)))).length ((lackT (cleanF y) ((allC (cleanF y) (cleanF z) i) ++ ((rangeI (vget (cleanF y).1 i + 1) (vget (cleanF z).1 i)).map fun n => ((i : Int), n)) ++ atRep i ((cleanF z).2.take (k + 1)))).flatMap encA)], [], ?_, ⟨k + 1, v84, rfl, hlt, rfl, rfl⟩, ⟨rfl, rfl, rfl, rfl, avI (wrapI (by omega) (by omega)), trivial⟩, ?_⟩
              · omega
              · rw [m3_yes hd (hb5.symm.trans hc5)]; rfl
            · refine wSkip ?_
              refine wReg ?_
              refine sP rfl rfl rfl (pM rfl rfl) ?_
              refine sP rfl rfl rfl (p_iar rfl rfl rfl rfl) ?_
              refine sP rfl rfl rfl (pA rfl rfl) ?_
              refine lNil ?_
              refine ⟨_, _, [.cells g2 55 (encCt (cleanF y)), .cells g3 55 (encCt (cleanF z)), .row v 23 2 (lackT (cleanF y) ((allC (cleanF y) (cleanF z) i) ++ ((rangeI (vget (cleanF y).1 i + 1) (vget (cleanF z).1 i)).map fun n => ((i : Int), n)) ++ atRep i ((cleanF z).2.take (k + 1)))).length ((lackT (cleanF y) ((allC (cleanF y) (cleanF z) i) ++ ((rangeI (vget (cleanF y).1 i + 1) (vget (cleanF z).1 i)).map fun n => ((i : Int), n)) ++ atRep i ((cleanF z).2.take (k + 1)))).flatMap encA)], [], ?_, ⟨k + 1, v, rfl, hlt, rfl, rfl⟩, ⟨rfl, rfl, rfl, rfl, avI (wrapI (by omega) (by omega)), trivial⟩, ?_⟩
              · omega
              · rw [m3_no hd (hb5.symm.trans hc5)]; rfl
        · have hge : k = (cleanF z).2.length := by
            have h : ¬ k < (cleanF z).2.length := by simpa using hc4
            omega
          subst hge
          refine wExit ?_
          refine wReg ?_
          refine sP rfl rfl rfl (pM rfl rfl) ?_
          refine sP rfl rfl rfl (p_iar rfl rfl rfl rfl) ?_
          refine sP rfl rfl rfl (pA rfl rfl) ?_
          refine lNil ?_
          have hall : (allC (cleanF y) (cleanF z) i) ++ ((rangeI (vget (cleanF y).1 i + 1) (vget (cleanF z).1 i)).map fun n => ((i : Int), n)) ++ atRep i ((cleanF z).2.take (cleanF z).2.length) = allC (cleanF y) (cleanF z) (i + 1) := by rw [List.take_length, allC_succ, List.append_assoc]; rfl
          refine ⟨_, _, [.cells g2 55 (encCt (cleanF y)), .cells g3 55 (encCt (cleanF z)), .row v 23 2 (lackT (cleanF y) (allC (cleanF y) (cleanF z) (i + 1))).length ((lackT (cleanF y) (allC (cleanF y) (cleanF z) (i + 1))).flatMap encA)], [], ?_, ⟨i + 1, v, rfl, hi16, rfl, rfl⟩, ⟨rfl, rfl, rfl, avI (wrapI (by omega) (by omega)), trivial⟩, ?_⟩
          · omega
          · rw [← hall]; rfl
  · have hge : i = 16 := by have h := hc1; simp at h; omega
    subst hge
    refine wExit ?_
    refine wFreeze 2 5 rfl rfl ?_
    refine wSeq ?_
    refine wReg ?_
    refine sP rfl rfl rfl (pMs rfl rfl) ?_
    refine sP rfl rfl rfl (pAs rfl rfl) ?_
    refine lNil ?_
    refine wRet ?_
    exact rgs1 (rg_tmp (gives_sub (Sub.of_eq (rfl))))
end Go.Proofs.Ytmhkalalcmkpbaa

namespace Go.Proofs.Ytmhkalalcmkpbaa
open Go Go.RowKit
set_option linter.unusedVariables false
set_option linter.unusedSimpArgs false

attribute [local irreducible] rV rS

set_option maxRecDepth 100000 in
theorem rccheck_p (c : CtxT) (hv : c.1.length = 16) (hn : c.2.length < 1000000) : PFn Try.prog False 53 [ctA c] (iA (ctxE c)) := by
  refine pfn Try.func53 rfl (by kernel_rfl) 15 rfl _ rfl (Nat.le_of_ble_eq_true rfl) (fun X w0 => ?_)
  refine wSeq ?_
  refine wReg ?_
  refine sBox rfl rfl rfl rfl rfl (fun g1 => ?_)
  refine sP rfl rfl rfl (pA rfl rfl) ?_
  refine lNil ?_
  refine wSeq ?_
  refine wSeq ?_
  refine wReg ?_
  refine sP rfl rfl rfl (p_fieldAddr_own rfl rfl fl55_0 ty53 (by decide)) ?_
  refine sP rfl rfl rfl (pLdO 0 rfl rfl rfl ty53 (ctx_le hv) (ctx_V hv)) ?_
  refine sP rfl rfl rfl (p_call rfl (rvcheck_p c.1 hv) ⟨Sub.refl, trivial⟩) ?_
  refine sP rfl rfl rfl (pA rfl rfl) ?_
  refine lNil ?_
  refine wSeq ?_
  refine wReg ?_
  refine sP rfl rfl rfl (pM rfl rfl) ?_
  refine sP rfl rfl rfl (p_icmp rfl rfl rfl rfl) ?_
  refine lNil ?_
  refine wCond rfl (fun hc1 => ?_) (fun hc1 => ?_)
  · refine wSeq ?_
    refine wReg ?_
    refine sP rfl rfl rfl (pM rfl rfl) ?_
    refine sP rfl rfl rfl (pA rfl rfl) ?_
    refine lNil ?_
    refine wRet ?_
    have h : vE c.1 ≠ 0 := by simpa using hc1
    exact rgs1 (rg_tmp (gives_sub (Sub.of_eq (avI (ctxE_1 h).symm))))
  · have hz : vE c.1 = 0 := by simpa using hc1
    refine wSkip ?_
    refine wSeq ?_
    refine wSeq ?_
    refine wDraw 5 (by kernel_rfl) (by kernel_rfl) ?_
    refine sP rfl rfl rfl (pLdW 0 rfl rfl rfl ty55 (ctx_len hv)) ?_
    refine sP rfl rfl rfl (pLdW 0 rfl rfl rfl ty55 (ctx_len hv)) ?_
    refine sP rfl rfl rfl (p_call rfl (rcclean_p c hv hn) ⟨Sub.refl, trivial⟩) ?_
    refine sP rfl rfl rfl (p_call rfl (rcsame_p c (cleanF c) hv (clean_F hv).len hn (by have := clean_len c; omega)) ⟨Sub.refl, Sub.refl, trivial⟩) ?_
    refine sP rfl rfl rfl (p_not rfl rfl) ?_
    refine lTail ?_
    refine lNil ?_
    refine wCond rfl (fun hc2 => ?_) (fun hc2 => ?_)
    · refine wSeq ?_
      refine wReg ?_
      refine sP rfl rfl rfl (pA rfl rfl) ?_
      refine lNil ?_
      refine wRet ?_
      have h : c ≠ cleanF c := by simpa using hc2
      exact rgs1 (rg_tmp (gives_sub (Sub.of_eq (avI (ctxE_2 hz h).symm))))
    · refine wSkip ?_
      refine wSeq ?_
      refine wReg ?_
      refine sP rfl rfl rfl (pA rfl rfl) ?_
      refine lNil ?_
      refine wRet ?_
      have h : c = cleanF c := by simpa using hc2
      exact rgs1 (rg_tmp (gives_sub (Sub.of_eq (avI (ctxE_3 hz h).symm))))
end Go.Proofs.Ytmhkalalcmkpbaa

namespace Go.Proofs.Ytmhkalalcmkpbaa
open Go Go.RowKit
set_option linter.unusedVariables false
set_option linter.unusedSimpArgs false

theorem fewR_cases (y z : CtxT) (l : List (Int × Int)) : (fewC y = false ∧ (!fewC y || (!fewC z || decide ((30 : Int) < (l.length : Nat)))) = true) ∨ (fewC y = true ∧ fewC z = false ∧ (!fewC y || (!fewC z || decide ((30 : Int) < (l.length : Nat)))) = true) ∨ (fewC y = true ∧ fewC z = true ∧ (30 : Int) < (l.length : Nat) ∧ (!fewC y || (!fewC z || decide ((30 : Int) < (l.length : Nat)))) = true) ∨ (fewC y = true ∧ fewC z = true ∧ ¬ (30 : Int) < (l.length : Nat) ∧ (!fewC y || (!fewC z || decide ((30 : Int) < (l.length : Nat)))) = false) := by
  cases fewC y with
  | false => exact .inl ⟨rfl, rfl⟩
  | true =>
    cases fewC z with
    | false => exact .inr (.inl ⟨rfl, rfl, rfl⟩)
    | true =>
      by_cases h : (30 : Int) < (l.length : Nat)
      · exact .inr (.inr (.inl ⟨rfl, rfl, h, by rw [decide_eq_true h]; rfl⟩))
      · exact .inr (.inr (.inr ⟨rfl, rfl, h, by rw [decide_eq_false h]; rfl⟩))

set_option maxRecDepth 100000 in
theorem rccompare_p (y z : CtxT) (ha : y.1.length = 16) (hb : z.1.length = 16) (ha2 : y.2.length < 1000000) (hb2 : z.2.length < 1000000) : PFn Try.prog False 61 [ctA y, ctA z] (iA (compareF y z)) := by
  refine pfn Try.func61 rfl (by kernel_rfl) 26 rfl _ rfl (Nat.le_of_ble_eq_true rfl) (fun X w0 => ?_)
  refine wSeq ?_
  refine wReg ?_
  refine sBox rfl rfl rfl rfl rfl (fun g2 => ?_)
  refine sBox rfl rfl rfl rfl rfl (fun g3 => ?_)
  refine sP rfl rfl rfl (pA rfl rfl) ?_
  refine lNil ?_
  refine wSeq ?_
  refine wDrawM 12 (by kernel_rfl) (by kernel_rfl) (fun _ => [.cells g2 55 (encCt y), .cells g3 55 (encCt z)]) [] (by kernel_rfl) rfl (fun m _ => rfl) ?_
  refine dwP rfl rfl rfl rfl rfl (fun k al => (pLdW 1 rfl rfl rfl ty55 (ctx_len hb))) ?_
  refine dwP rfl rfl rfl rfl rfl (fun k al => (pLdW 0 rfl rfl rfl ty55 (ctx_len ha))) ?_
  refine dwP rfl rfl rfl rfl rfl (fun k al => (p_call rfl (rcmiss_p z y hb ha hb2 ha2) ⟨Sub.refl, Sub.refl, trivial⟩)) ?_
  refine dwP rfl rfl rfl rfl rfl (fun k al => (p_len_sl rfl rfl Try.underlying27)) ?_
  refine dwP rfl rfl rfl rfl rfl (fun k al => (p_icmp rfl rfl rfl (show _ = some (lk z y) from rfl))) ?_
  refine dwP rfl rfl rfl rfl rfl (fun k al => (pLdW 0 rfl rfl rfl ty55 (ctx_len ha))) ?_
  refine dwP rfl rfl rfl rfl rfl (fun k al => (pLdW 1 rfl rfl rfl ty55 (ctx_len hb))) ?_
  refine dwP rfl rfl rfl rfl rfl (fun k al => (p_call rfl (rcmiss_p y z ha hb ha2 hb2) ⟨Sub.refl, Sub.refl, trivial⟩)) ?_
  refine dwP rfl rfl rfl rfl rfl (fun k al => (p_len_sl rfl rfl Try.underlying27)) ?_
  refine dwP rfl rfl rfl rfl rfl (fun k al => (p_icmp rfl rfl rfl (show _ = some (lk y z) from rfl))) ?_
  refine dwP rfl rfl rfl rfl rfl (fun k al => (pA rfl rfl)) ?_
  refine dwP rfl rfl rfl rfl rfl (fun k al => (pA rfl rfl)) ?_
  refine dwNil ?_
  refine lNil ?_
  refine wSeq ?_
  refine wBlock ?_
  refine wCut (fun L h => ∃ b0 : Bool, b0 = (lk y z && lk z y) ∧ L = [(6, bA (lk y z)), (5, bA (lk z y)), (17, bA b0)] ∧ h = [.cells g2 55 (encCt y), .cells g3 55 (encCt z)]) ?_ ?_
  · cases hb0 : (lk y z) with
    | true =>
      refine wReg ?_
      refine sP rfl rfl rfl (pM rfl rfl) ?_
      refine sP rfl rfl rfl (pM rfl rfl) ?_
      refine sG rfl rfl rfl rfl rfl (pM rfl rfl) ?_
      refine sP rfl rfl rfl (p_pick rfl rfl rfl) ?_
      refine sP rfl rfl rfl (pA rfl rfl) ?_
      refine lNil ?_
      exact ⟨_, [.cells g2 55 (encCt y), .cells g3 55 (encCt z)], [], ⟨_, (by exact rfl), rfl, rfl⟩, ⟨rfl, rfl, rfl, trivial⟩, rfl⟩
    | false =>
      refine wReg ?_
      refine sP rfl rfl rfl (pM rfl rfl) ?_
      refine sP rfl rfl rfl (pM rfl rfl) ?_
      refine sU rfl rfl rfl (by decide) rfl rfl ?_
      refine sP rfl rfl rfl (p_pick rfl rfl rfl) ?_
      refine sP rfl rfl rfl (pA rfl rfl) ?_
      refine lNil ?_
      exact ⟨_, [.cells g2 55 (encCt y), .cells g3 55 (encCt z)], [], ⟨_, (by exact rfl), rfl, rfl⟩, ⟨rfl, rfl, rfl, trivial⟩, rfl⟩
  · rintro L h ⟨b0, bb0, rfl, rfl⟩
    refine wCond rfl (fun hc1 => ?_) (fun hc1 => ?_)
    · refine wSeq ?_
      refine wReg ?_
      refine sP rfl rfl rfl (pA rfl rfl) ?_
      refine lNil ?_
      refine wRet ?_
      exact rgs1 (rg_tmp (gives_sub (Sub.of_eq (avI (cmp_2 (bb0.symm.trans hc1)).symm))))
    · refine wSeq ?_
      refine wReg ?_
      refine sP rfl rfl rfl (pM rfl rfl) ?_
      refine sP rfl rfl rfl (pA rfl rfl) ?_
      refine lNil ?_
      refine wCond rfl (fun hc2 => ?_) (fun hc2 => ?_)
      · refine wSeq ?_
        refine wReg ?_
        refine sP rfl rfl rfl (pA rfl rfl) ?_
        refine lNil ?_
        refine wRet ?_
        exact rgs1 (rg_tmp (gives_sub (Sub.of_eq (avI (cmp_l (bb0.symm.trans hc1) hc2).symm))))
      · refine wSeq ?_
        refine wReg ?_
        refine sP rfl rfl rfl (pM rfl rfl) ?_
        refine sP rfl rfl rfl (pA rfl rfl) ?_
        refine lNil ?_
        refine wCond rfl (fun hc3 => ?_) (fun hc3 => ?_)
        · refine wSeq ?_
          refine wReg ?_
          refine sP rfl rfl rfl (pA rfl rfl) ?_
          refine lNil ?_
          refine wRet ?_
          exact rgs1 (rg_tmp (gives_sub (Sub.of_eq (avI (cmp_m hc2 hc3).symm))))
        · refine wSkip ?_
          refine wSeq ?_
          refine wReg ?_
          refine sP rfl rfl rfl (pA rfl rfl) ?_
          refine lNil ?_
          refine wRet ?_
          exact rgs1 (rg_tmp (gives_sub (Sub.of_eq (avI (cmp_0 hc2 hc3).symm))))
set_option maxHeartbeats 2000000 in
set_option maxRecDepth 100000 in
theorem creckons_w (y z : CtxT) (l : List (Int × Int)) (hy : y.1.length = 16) (hz : z.1.length = 16) : PFn Try.prog False 11 [ctA y, ctA z, slD l] (bA true) := by
  refine pfn Try.func11 rfl (by kernel_rfl) 92 rfl _ rfl (Nat.le_of_ble_eq_true rfl) (fun X w0 => ?_)
  refine wSeq ?_
  refine wReg ?_
  refine sBox rfl rfl rfl rfl rfl (fun g3 => ?_)
  refine sBox rfl rfl rfl rfl rfl (fun g4 => ?_)
  refine sP rfl rfl rfl (pA rfl rfl) ?_
  refine lNil ?_
  refine wSeq ?_
  refine wCut (fun L h => ∃ b : Bool, b = (!fewC y || (!fewC z || decide ((30 : Int) < (l.length : Nat)))) ∧ L = [(2, slD l), (3, nP g3), (4, nP g4), (20, bA b)] ∧ h = [.cells g3 55 (encCt y), .cells g4 55 (encCt z)]) ?_ ?_
  · rcases fewR_cases y z l with ⟨e1, hbv⟩ | ⟨e1, e2, hbv⟩ | ⟨e1, e2, e3, hbv⟩ | ⟨e1, e2, e3, hbv⟩
    · refine wReg ?_
      refine sP rfl rfl rfl (pLdW 0 rfl rfl rfl ty55 (ctx_len hy)) ?_
      refine sP rfl rfl rfl (p_call rfl (few13_is hy e1) ⟨Sub.refl, trivial⟩) ?_
      refine sP rfl rfl rfl (p_not rfl rfl) ?_
      refine sP rfl rfl rfl (pM rfl rfl) ?_
      refine sUx rfl rfl rfl (by decide) rfl rfl ?_
      refine sUx rfl rfl rfl (by decide) rfl rfl ?_
      refine sUx rfl rfl rfl (by decide) rfl rfl ?_
      refine sP rfl rfl rfl (p_pick rfl rfl rfl) ?_
      refine sP rfl rfl rfl (pM rfl rfl) ?_
      refine sUx rfl rfl rfl (by decide) rfl rfl ?_
      refine sUx rfl rfl rfl (by decide) rfl rfl ?_
      refine sUx rfl rfl rfl (by decide) rfl rfl ?_
      refine sP rfl rfl rfl (p_pick rfl rfl rfl) ?_
      refine lNil ?_
      exact ⟨_, [.cells g3 55 (encCt y), .cells g4 55 (encCt z)], _, ⟨_, (by exact hbv.symm), rfl, rfl⟩, ⟨rfl, rfl, rfl, rfl, trivial⟩, rfl⟩
    · refine wReg ?_
      refine sP rfl rfl rfl (pLdW 0 rfl rfl rfl ty55 (ctx_len hy)) ?_
      refine sP rfl rfl rfl (p_call rfl (few13_is hy e1) ⟨Sub.refl, trivial⟩) ?_
      refine sP rfl rfl rfl (p_not rfl rfl) ?_
      refine sP rfl rfl rfl (pM rfl rfl) ?_
      refine sG rfl rfl rfl rfl rfl (pLdW 1 rfl rfl rfl ty55 (ctx_len hz)) ?_
      refine sG rfl rfl rfl rfl rfl (p_call rfl (few13_is hz e2) ⟨Sub.refl, trivial⟩) ?_
      refine sG rfl rfl rfl rfl rfl (p_not rfl rfl) ?_
      refine sP rfl rfl rfl (p_pick rfl rfl rfl) ?_
      refine sP rfl rfl rfl (pM rfl rfl) ?_
      refine sUx rfl rfl rfl (by decide) rfl rfl ?_
      refine sUx rfl rfl rfl (by decide) rfl rfl ?_
      refine sUx rfl rfl rfl (by decide) rfl rfl ?_
      refine sP rfl rfl rfl (p_pick rfl rfl rfl) ?_
      refine lNil ?_
      exact ⟨_, [.cells g3 55 (encCt y), .cells g4 55 (encCt z)], _, ⟨_, (by exact hbv.symm), rfl, rfl⟩, ⟨rfl, rfl, rfl, rfl, trivial⟩, rfl⟩
    · refine wReg ?_
      refine sP rfl rfl rfl (pLdW 0 rfl rfl rfl ty55 (ctx_len hy)) ?_
      refine sP rfl rfl rfl (p_call rfl (few13_is hy e1) ⟨Sub.refl, trivial⟩) ?_
      refine sP rfl rfl rfl (p_not rfl rfl) ?_
      refine sP rfl rfl rfl (pM rfl rfl) ?_
      refine sG rfl rfl rfl rfl rfl (pLdW 1 rfl rfl rfl ty55 (ctx_len hz)) ?_
      refine sG rfl rfl rfl rfl rfl (p_call rfl (few13_is hz e2) ⟨Sub.refl, trivial⟩) ?_
      refine sG rfl rfl rfl rfl rfl (p_not rfl rfl) ?_
      refine sP rfl rfl rfl (p_pick rfl rfl rfl) ?_
      refine sP rfl rfl rfl (pM rfl rfl) ?_
      refine sG rfl rfl rfl rfl rfl (pMs rfl rfl) ?_
      refine sG rfl rfl rfl rfl rfl (p_len_sl rfl rfl Try.underlying27) ?_
      refine sG rfl rfl rfl rfl rfl (p_icmp rfl rfl rfl (gtrC_t e3)) ?_
      refine sP rfl rfl rfl (p_pick rfl rfl rfl) ?_
      refine lNil ?_
      exact ⟨_, [.cells g3 55 (encCt y), .cells g4 55 (encCt z)], _, ⟨_, (by exact hbv.symm), rfl, rfl⟩, ⟨rfl, rfl, rfl, rfl, trivial⟩, rfl⟩
    · refine wReg ?_
      refine sP rfl rfl rfl (pLdW 0 rfl rfl rfl ty55 (ctx_len hy)) ?_
      refine sP rfl rfl rfl (p_call rfl (few13_is hy e1) ⟨Sub.refl, trivial⟩) ?_
      refine sP rfl rfl rfl (p_not rfl rfl) ?_
      refine sP rfl rfl rfl (pM rfl rfl) ?_
      refine sG rfl rfl rfl rfl rfl (pLdW 1 rfl rfl rfl ty55 (ctx_len hz)) ?_
      refine sG rfl rfl rfl rfl rfl (p_call rfl (few13_is hz e2) ⟨Sub.refl, trivial⟩) ?_
      refine sG rfl rfl rfl rfl rfl (p_not rfl rfl) ?_
      refine sP rfl rfl rfl (p_pick rfl rfl rfl) ?_
      refine sP rfl rfl rfl (pM rfl rfl) ?_
      refine sG rfl rfl rfl rfl rfl (pMs rfl rfl) ?_
      refine sG rfl rfl rfl rfl rfl (p_len_sl rfl rfl Try.underlying27) ?_
      refine sG rfl rfl rfl rfl rfl (p_icmp rfl rfl rfl (gtrC_f e3)) ?_
      refine sP rfl rfl rfl (p_pick rfl rfl rfl) ?_
      refine lNil ?_
      exact ⟨_, [.cells g3 55 (encCt y), .cells g4 55 (encCt z)], _, ⟨_, (by exact hbv.symm), rfl, rfl⟩, ⟨rfl, rfl, rfl, rfl, trivial⟩, rfl⟩
  · rintro L h ⟨b, hb, rfl, rfl⟩
    refine wCond rfl (fun hc1 => ?_) (fun hc1 => ?_)
    · refine wSeq ?_
      refine wReg ?_
      refine sP rfl rfl rfl (p_call rfl (awake13_p) trivial) ?_
      refine sP rfl rfl rfl (pA rfl rfl) ?_
      refine lNil ?_
      refine wRet ?_
      exact rgs1 (rg_tmp (gives_sub (Sub.of_eq (rfl))))
    · have hb3 := hb.symm.trans hc1
      rw [Bool.or_eq_false_iff, Bool.or_eq_false_iff, decide_eq_false_iff_not, Bool.not_eq_false', Bool.not_eq_false'] at hb3
      have f1 := fewC_le hb3.1
      have f2 := fewC_le hb3.2.1
      have f3 := hb3.2.2
      have hcy := (clean_F hy).len
      have hadd := (clean_add (c := y) hy l).len
      have hj := (clean_join hy hz).len
      have l0 := clean_len y
      have l1 := join_len y z
      have l2 := add_len y l
      have lm : (missF y z).length ≤ 4096 := lackT_len _ _
      refine wSkip ?_
      refine wSeq ?_
      refine wSeq ?_
      refine wReg ?_
      refine sP rfl rfl rfl (pA rfl rfl) ?_
      refine lNil ?_
      refine wBlock ?_
      refine wLoop (fun mm L h => ∃ i, mm = l.length - i ∧ i ≤ l.length ∧ L = [(2, slD l), (3, nP g3), (4, nP g4), (7, iA (i : Nat))] ∧ h = [.cells g3 55 (encCt y), .cells g4 55 (encCt z)]) ⟨_, _, _, _, ⟨0, rfl, Nat.zero_le _, rfl, rfl⟩, ⟨rfl, rfl, rfl, rfl, trivial⟩, rfl⟩ ?_
      rintro mm L h ⟨i, rfl, hi, rfl, rfl⟩
      refine wSeq ?_
      refine wSeq ?_
      refine wReg ?_
      refine sP rfl rfl rfl (pM rfl rfl) ?_
      refine sP rfl rfl rfl (pMs rfl rfl) ?_
      refine sP rfl rfl rfl (p_len_sl rfl rfl Try.underlying27) ?_
      refine sP rfl rfl rfl (p_icmp rfl rfl rfl rfl) ?_
      refine lNil ?_
      refine wCond rfl (fun hc2 => ?_) (fun hc2 => ?_)
      · have hlt : i < l.length := by simpa using hc2
        obtain ⟨x, hx⟩ := getL hlt
        refine wSkip ?_
        refine wSeq ?_
        refine wBlock ?_
        refine wSeq ?_
        refine wDraw 13 (by kernel_rfl) (by kernel_rfl) ?_
        refine sP rfl rfl rfl (pLdW 0 rfl rfl rfl ty55 (ctx_len hy)) ?_
        refine sP rfl rfl rfl (pMs rfl rfl) ?_
        refine sP rfl rfl rfl (pM rfl rfl) ?_
        refine sP rfl rfl rfl (pIdx i rfl rfl Try.underlying27 ty23 (by decide) rfl (fun _ => rfl) rfl rfl hx) ?_
        refine sP rfl rfl rfl (pLdE rfl rfl ty23 rfl) ?_
        refine sP rfl rfl rfl (p_call rfl (chas_p y x hy (by omega)) ⟨Sub.refl, Sub.refl, trivial⟩) ?_
        refine sP rfl rfl rfl (pLdW 0 rfl rfl rfl ty55 (ctx_len hy)) ?_
        refine sP rfl rfl rfl (pMs rfl rfl) ?_
        refine sP rfl rfl rfl (pM rfl rfl) ?_
        refine sP rfl rfl rfl (pIdx i rfl rfl Try.underlying27 ty23 (by decide) rfl (fun _ => rfl) rfl rfl hx) ?_
        refine sP rfl rfl rfl (pLdE rfl rfl ty23 rfl) ?_
        refine sP rfl rfl rfl (p_call rfl (rchas_p y x hy (by omega)) ⟨Sub.refl, Sub.refl, trivial⟩) ?_
        refine sP rfl rfl rfl (p_bneC (r := false) rfl rfl rfl Try.underlying4 (by simp)) ?_
        refine lTail ?_
        refine lNil ?_
        refine wCond rfl (fun hc3 => ?_) (fun hc3 => ?_)
        · refine wSeq ?_
          refine wReg ?_
          refine sP rfl rfl rfl (pA rfl rfl) ?_
          refine lNil ?_
          refine wRet ?_
          cases hc3
        · refine wSkip ?_
          refine wReg ?_
          refine sP rfl rfl rfl (pM rfl rfl) ?_
          refine sP rfl rfl rfl (p_iar rfl rfl rfl rfl) ?_
          refine sP rfl rfl rfl (pA rfl rfl) ?_
          refine lNil ?_
          refine ⟨_, _, [.cells g3 55 (encCt y), .cells g4 55 (encCt z)], [], ?_, ⟨i + 1, rfl, hlt, rfl, rfl⟩, ⟨rfl, rfl, rfl, avI (wrapI (by omega) (by omega)), trivial⟩, rfl⟩
          omega
      · refine wExit ?_
        refine wSeq ?_
        refine wDraw 52 (by kernel_rfl) (by kernel_rfl) ?_
        refine sP rfl rfl rfl (pLdW 0 rfl rfl rfl ty55 (ctx_len hy)) ?_
        refine sP rfl rfl rfl (p_call rfl (cclean_p y hy (by omega)) ⟨Sub.refl, trivial⟩) ?_
        refine sP rfl rfl rfl (pLdW 0 rfl rfl rfl ty55 (ctx_len hy)) ?_
        refine sP rfl rfl rfl (p_call rfl (rcclean_p y hy (by omega)) ⟨Sub.refl, trivial⟩) ?_
        refine sP rfl rfl rfl (p_call rfl (rcsame_is hcy hcy (by omega) (by omega) (decide_eq_true rfl)) ⟨Sub.refl, Sub.refl, trivial⟩) ?_
        refine sP rfl rfl rfl (pM rfl rfl) ?_
        refine sG rfl rfl rfl rfl rfl (pLdW 0 rfl rfl rfl ty55 (ctx_len hy)) ?_
        refine sG rfl rfl rfl rfl rfl (p_call rfl (ccheck_p y hy (by omega)) ⟨Sub.refl, trivial⟩) ?_
        refine sG rfl rfl rfl rfl rfl (pLdW 0 rfl rfl rfl ty55 (ctx_len hy)) ?_
        refine sG rfl rfl rfl rfl rfl (p_call rfl (rccheck_p y hy (by omega)) ⟨Sub.refl, trivial⟩) ?_
        refine sG rfl rfl rfl rfl rfl (p_icmp rfl rfl rfl (eql_t rfl)) ?_
        refine sP rfl rfl rfl (p_pick rfl rfl rfl) ?_
        refine sP rfl rfl rfl (pM rfl rfl) ?_
        refine sG rfl rfl rfl rfl rfl (pLdW 0 rfl rfl rfl ty55 (ctx_len hy)) ?_
        refine sG rfl rfl rfl rfl rfl (pMs rfl rfl) ?_
        refine sG rfl rfl rfl rfl rfl (p_call rfl (cadd_p y l hy (by omega) (by omega)) ⟨Sub.refl, Sub.refl, trivial⟩) ?_
        refine sG rfl rfl rfl rfl rfl (pLdW 0 rfl rfl rfl ty55 (ctx_len hy)) ?_
        refine sG rfl rfl rfl rfl rfl (pMs rfl rfl) ?_
        refine sG rfl rfl rfl rfl rfl (p_call rfl (rcadd_p y l hy (by omega) (by omega)) ⟨Sub.refl, Sub.refl, trivial⟩) ?_
        refine sG rfl rfl rfl rfl rfl (p_call rfl (rcsame_is hadd hadd (by omega) (by omega) (decide_eq_true rfl)) ⟨Sub.refl, Sub.refl, trivial⟩) ?_
        refine sP rfl rfl rfl (p_pick rfl rfl rfl) ?_
        refine sP rfl rfl rfl (pM rfl rfl) ?_
        refine sG rfl rfl rfl rfl rfl (pLdW 0 rfl rfl rfl ty55 (ctx_len hy)) ?_
        refine sG rfl rfl rfl rfl rfl (pLdW 1 rfl rfl rfl ty55 (ctx_len hz)) ?_
        refine sG rfl rfl rfl rfl rfl (p_call rfl (cjoin_p y z hy hz (by omega) (by omega)) ⟨Sub.refl, Sub.refl, trivial⟩) ?_
        refine sG rfl rfl rfl rfl rfl (pLdW 0 rfl rfl rfl ty55 (ctx_len hy)) ?_
        refine sG rfl rfl rfl rfl rfl (pLdW 1 rfl rfl rfl ty55 (ctx_len hz)) ?_
        refine sG rfl rfl rfl rfl rfl (p_call rfl (rcjoin_p y z hy hz (by omega) (by omega)) ⟨Sub.refl, Sub.refl, trivial⟩) ?_
        refine sG rfl rfl rfl rfl rfl (p_call rfl (rcsame_is hj hj (by omega) (by omega) (decide_eq_true rfl)) ⟨Sub.refl, Sub.refl, trivial⟩) ?_
        refine sP rfl rfl rfl (p_pick rfl rfl rfl) ?_
        refine sP rfl rfl rfl (pM rfl rfl) ?_
        refine sG rfl rfl rfl rfl rfl (pLdW 0 rfl rfl rfl ty55 (ctx_len hy)) ?_
        refine sG rfl rfl rfl rfl rfl (pLdW 1 rfl rfl rfl ty55 (ctx_len hz)) ?_
        refine sG rfl rfl rfl rfl rfl (p_call rfl (cmiss_p y z hy hz (by omega) (by omega)) ⟨Sub.refl, Sub.refl, trivial⟩) ?_
        refine sG rfl rfl rfl rfl rfl (pLdW 0 rfl rfl rfl ty55 (ctx_len hy)) ?_
        refine sG rfl rfl rfl rfl rfl (pLdW 1 rfl rfl rfl ty55 (ctx_len hz)) ?_
        refine sG rfl rfl rfl rfl rfl (p_call rfl (rcmiss_p y z hy hz (by omega) (by omega)) ⟨Sub.refl, Sub.refl, trivial⟩) ?_
        refine sG rfl rfl rfl rfl rfl (p_call rfl (rdsame_is (decide_eq_true rfl) (by omega) (by omega)) ⟨Sub.refl, Sub.refl, trivial⟩) ?_
        refine sP rfl rfl rfl (p_pick rfl rfl rfl) ?_
        refine sP rfl rfl rfl (pM rfl rfl) ?_
        refine sG rfl rfl rfl rfl rfl (pLdW 0 rfl rfl rfl ty55 (ctx_len hy)) ?_
        refine sG rfl rfl rfl rfl rfl (pLdW 1 rfl rfl rfl ty55 (ctx_len hz)) ?_
        refine sG rfl rfl rfl rfl rfl (p_call rfl (ccompare_p y z hy hz (by omega) (by omega)) ⟨Sub.refl, Sub.refl, trivial⟩) ?_
        refine sG rfl rfl rfl rfl rfl (pLdW 0 rfl rfl rfl ty55 (ctx_len hy)) ?_
        refine sG rfl rfl rfl rfl rfl (pLdW 1 rfl rfl rfl ty55 (ctx_len hz)) ?_
        refine sG rfl rfl rfl rfl rfl (p_call rfl (rccompare_p y z hy hz (by omega) (by omega)) ⟨Sub.refl, Sub.refl, trivial⟩) ?_
        refine sG rfl rfl rfl rfl rfl (p_icmp rfl rfl rfl (eql_t rfl)) ?_
        refine sP rfl rfl rfl (p_pick rfl rfl rfl) ?_
        refine sP rfl rfl rfl (pM rfl rfl) ?_
        refine sG rfl rfl rfl rfl rfl (p_call rfl (awake13_p) trivial) ?_
        refine sP rfl rfl rfl (p_pick rfl rfl rfl) ?_
        refine sP rfl rfl rfl (pA rfl rfl) ?_
        refine lTail ?_
        refine lNil ?_
        refine wRet ?_
        exact rgs1 (rg_tmp (gives_sub (Sub.of_eq (rfl))))
end Go.Proofs.Ytmhkalalcmkpbaa

namespace Go.Proofs.Ytmhkalalcmkpbaa
open Go Go.ChangeShapes Go.WideShapes Go.ChangeAt Go.RowKit
set_option linter.unusedVariables false
theorem slice_bounds {P : Program} {W : World} {r : Reach} {b : Nat} {t e : TypeId} {a : Option Addr} {len cap : Nat} (ht : P.underlying t = some (.slice e)) (h : Value.okWide P W r b t (.slice a len cap)) : len ≤ cap ∧ cap ≤ 9223372036854775807 := by
  simp only [Value.okWide, ht, Cell.okWide] at h
  cases a with
  | none => 
    cases len <;> cases cap <;> simp_all [Cell.ok]
  | some ad =>
    simp only [Cell.ok, ht] at h
    have h2 : (cap : Int) ≤ 9223372036854775807 := h.2.1
    exact ⟨h.1, by omega⟩
end Go.Proofs.Ytmhkalalcmkpbaa

namespace Go.Proofs.Ytmhkalalcmkpbaa
open Go Go.ChangeShapes Go.WideShapes Go.ChangeAt Go.RowKit Go.Deep
set_option linter.unusedVariables false
set_option linter.unusedSimpArgs false

theorem dots_repC {w : World} {A : Option Addr} {n c : Nat} {l : List (Int × Int)} (hl : l.length = n) (hnc : n ≤ c) (hcm : c ≤ 9223372036854775807) (hr : RdD w w.heap.size A n l) : Rep (fun _ => False) w (slD l) (.slice A n c) := by
  subst hl
  simp only [Rep]
  refine ⟨slD_len l, A, c, rfl, hnc, hcm, ?_⟩
  rcases Nat.eq_zero_or_pos l.length with h0 | h0
  · exact .inl (by rw [h0])
  · obtain ⟨ad, h1, h2, h3⟩ := hr.2 h0
    refine .inr ⟨ad, h1, h2, fun h => h, ?_⟩
    refine RepC.mk fun j cc hj => ?_
    rw [encA_flat, List.getElem?_map] at hj
    obtain ⟨u, hu, rfl⟩ := Option.map_eq_some_iff.1 hj
    exact ⟨u, h3 j u hu, rep_x.2 rfl⟩
theorem rowWideC {P : Program} {W : World} {r : Reach} {b : Nat} {t u : TypeId} {ts : List TypeId} {cs : Array Value} {i : Nat} {v : Value} (h : Row.okWide P W r b t cs) (hts : P.cellTypes P.depth t = some ts) (hv : cs[i]? = some v) (hi : i < ts.length) (hu : ts[i]? = some u) : Cell.okWide P W r b u v := by
  obtain ⟨ts', h1, _, h2⟩ := h
  rw [hts] at h1
  injection h1 with h1
  subst h1
  obtain ⟨u', h3, h4⟩ := h2 i v hv
  rw [Nat.mod_eq_of_lt hi, hu] at h3
  injection h3 with h3
  subst h3
  exact h4
set_option maxRecDepth 100000 in
theorem read_ctx {H : Type} {enc : TypeId × Value → H} {W : World} {b0 : Nat} {r : Reach} {b1 : Nat} {hd : Bool} {v : Value} {d : DataW H} {p : List MemPlace}
    (hv : Value.okWide Try.prog W r b1 55 v) (h : DataW.Trod enc Try.prog W b0 (fun _ => true) hd 55 v d p) : ∃ x : CtxT, x.1.length = 16 ∧ Rep (fun _ => False) W (ctA x) v := by
  have hv0 := hv
  simp only [Value.okWide, Try.underlying55] at hv0
  obtain ⟨us, rfl, hsz, hrow⟩ := hv0
  obtain ⟨fuel, hf⟩ := h
  obtain ⟨ys, n, _, hx, hlen, hyl, hfs⟩ := DataW.trod_struct Try.underlying55 hf
  have hC : Try.prog.cellsOf 55 = 17 := by kernel_rfl
  have hG : Try.prog.cellsOf 27 = 1 := by kernel_rfl
  obtain ⟨l⟩ := us
  rw [hC] at hsz
  have hsz' : l.length = 17 := hsz
  match l, hsz' with
  | [c0, c1, c2, c3, c4, c5, c6, c7, c8, c9, c10, c11, c12, c13, c14, c15, c16], _ =>
    match ys, hyl with
    | [y0, y1], _ =>
      have h1 : DataW.trod enc Try.prog W b0 (fun _ => true) hd n 27 ((([c0, c1, c2, c3, c4, c5, c6, c7, c8, c9, c10, c11, c12, c13, c14, c15, c16] : List Value).drop 16).take (Try.prog.cellsOf 27)) = some y1 := hfs 1 _ rfl
      rw [hG] at h1
      have hts : Try.prog.cellTypes Try.prog.depth 55 = some [3, 3, 3, 3, 3, 3, 3, 3, 3, 3, 3, 3, 3, 3, 3, 3, 27] := by kernel_rfl
      have wi : ∀ (i : Nat) (c : Value), i < 16 → ([c0, c1, c2, c3, c4, c5, c6, c7, c8, c9, c10, c11, c12, c13, c14, c15, c16] : List Value)[i]? = some c → ([3, 3, 3, 3, 3, 3, 3, 3, 3, 3, 3, 3, 3, 3, 3, 3, 27] : List TypeId)[i]? = some 3 → ∃ z, c = .int .i64 z := fun i c hi hc ht => okWide_int Try.underlying3 (by
        simp only [Value.okWide, Try.underlying3]
        exact rowWideC (i := i) hrow hts (by simpa using hc) (by show i < 17; omega) ht)
      obtain ⟨z0, rfl⟩ := wi 0 c0 (by decide) rfl rfl
      obtain ⟨z1, rfl⟩ := wi 1 c1 (by decide) rfl rfl
      obtain ⟨z2, rfl⟩ := wi 2 c2 (by decide) rfl rfl
      obtain ⟨z3, rfl⟩ := wi 3 c3 (by decide) rfl rfl
      obtain ⟨z4, rfl⟩ := wi 4 c4 (by decide) rfl rfl
      obtain ⟨z5, rfl⟩ := wi 5 c5 (by decide) rfl rfl
      obtain ⟨z6, rfl⟩ := wi 6 c6 (by decide) rfl rfl
      obtain ⟨z7, rfl⟩ := wi 7 c7 (by decide) rfl rfl
      obtain ⟨z8, rfl⟩ := wi 8 c8 (by decide) rfl rfl
      obtain ⟨z9, rfl⟩ := wi 9 c9 (by decide) rfl rfl
      obtain ⟨z10, rfl⟩ := wi 10 c10 (by decide) rfl rfl
      obtain ⟨z11, rfl⟩ := wi 11 c11 (by decide) rfl rfl
      obtain ⟨z12, rfl⟩ := wi 12 c12 (by decide) rfl rfl
      obtain ⟨z13, rfl⟩ := wi 13 c13 (by decide) rfl rfl
      obtain ⟨z14, rfl⟩ := wi 14 c14 (by decide) rfl rfl
      obtain ⟨z15, rfl⟩ := wi 15 c15 (by decide) rfl rfl
      have w16 : Value.okWide Try.prog W r b1 27 c16 := by
        simp only [Value.okWide, Try.underlying27]
        exact rowWideC (i := 16) hrow hts rfl (by decide) rfl
      obtain ⟨a, n16, k, rfl⟩ := okWide_slice Try.underlying27 w16
      obtain ⟨b6, m6⟩ := slice_bounds Try.underlying27 w16
      obtain ⟨gs, q3⟩ := read_dots (a := a) (len := n16) (cap := k) (d := y1.1) (p := y1.2) ⟨n, h1⟩
      refine ⟨([z0, z1, z2, z3, z4, z5, z6, z7, z8, z9, z10, z11, z12, z13, z14, z15], gs), rfl, ?_⟩
      simp only [Rep]
      refine ⟨_, rfl, rfl, ?_⟩
      simp only [encCt, List.map, List.cons_append, List.nil_append, RepC]
      exact ⟨⟨_, rfl, rep_x.2 rfl⟩, ⟨_, rfl, rep_x.2 rfl⟩, ⟨_, rfl, rep_x.2 rfl⟩, ⟨_, rfl, rep_x.2 rfl⟩, ⟨_, rfl, rep_x.2 rfl⟩, ⟨_, rfl, rep_x.2 rfl⟩, ⟨_, rfl, rep_x.2 rfl⟩, ⟨_, rfl, rep_x.2 rfl⟩, ⟨_, rfl, rep_x.2 rfl⟩, ⟨_, rfl, rep_x.2 rfl⟩, ⟨_, rfl, rep_x.2 rfl⟩, ⟨_, rfl, rep_x.2 rfl⟩, ⟨_, rfl, rep_x.2 rfl⟩, ⟨_, rfl, rep_x.2 rfl⟩, ⟨_, rfl, rep_x.2 rfl⟩, ⟨_, rfl, rep_x.2 rfl⟩, ⟨_, rfl, dots_repC q3.len b6 m6 q3⟩, trivial⟩
end Go.Proofs.Ytmhkalalcmkpbaa

namespace Go.Proofs.Ytmhkalalcmkpbaa
open Go Go.ChangeShapes Go.WideShapes Go.ChangeAt Go.RowKit Go.Deep
set_option linter.unusedVariables false
set_option linter.unusedSimpArgs false

theorem creckons_walk (y z : CtxT) (l : List (Int × Int)) (u v s : Value) (w : World) (hy : y.1.length = 16) (hz : z.1.length = 16) (h1 : Rep (fun _ => False) w (ctA y) u) (h2 : Rep (fun _ => False) w (ctA z) v) (h3 : Rep (fun _ => False) w (slD l) s) : Calls Try.prog 11 #[u, v, s] w fun e w' => e = .returned (.bool true) ∧ Below w.heap.size w w' := by
  have hr : RepC (fun _ => False) w [ctA y, ctA z, slD l] (fun j => (#[u, v, s] : Array Value)[j]?) := by
    simp only [RepC]
    exact ⟨⟨_, rfl, h1⟩, ⟨_, rfl, h2⟩, ⟨_, rfl, h3⟩, trivial⟩
  refine ((creckons_w y z l hy hz).calls (fun _ => False) w _ (fun b hb => hb.elim) rfl hr).mono ?_
  rintro e w' ⟨r, rfl, h2, h3⟩
  rw [rep_x] at h2
  subst h2
  exact ⟨rfl, h3.b⟩
end Go.Proofs.Ytmhkalalcmkpbaa
