/-
  WireList WireList2 WireListR Hexa HexaR HexaR2 ChunkW ChunkR ChunkRR FactCheck CmpS FacP
-/
import Derived.Test.YtmhkalalcmkpbaaZDotCmp
import Derived.Test.YtmhkalalcmkpbaaZDotRSort
import Derived.Test.YtmhkalalcmkpbaaZOrd
import Derived.Test.YtmhkalalcmkpbaaZStampW
import Derived.Test.YtmhkalalcmkpbaaZWireTextR
import Derived.Laws.RangeString
import Derived.Laws.MakeOwn
import Derived.Deep.RegionHeld3
import Derived.Deep.DrawnRows
namespace Go.Proofs.Ytmhkalalcmkpbaa
open Go.RowKit
set_option linter.unusedVariables false
set_option linter.unusedSimpArgs false

/-- Texts out of bytes, one behind the other, till one fails. -/
def rdTs : Nat → ByteArray × Int → List ByteArray × (ByteArray × Int)
  | 0, st => ([], st)
  | n + 1, st => if st.2 ≠ 0 then ([], st) else ((rdT st).1 :: (rdTs n (rdT st).2).1, (rdTs n (rdT st).2).2)
theorem rdTs_step (n : Nat) (st : ByteArray × Int) (h : st.2 = 0) : rdTs (n + 1) st = ((rdT st).1 :: (rdTs n (rdT st).2).1, (rdTs n (rdT st).2).2) := by
  show (if st.2 ≠ 0 then _ else _) = _
  rw [if_neg (by simpa using h)]
theorem rdTs_stop (n : Nat) (st : ByteArray × Int) (h : st.2 ≠ 0) : rdTs n st = ([], st) := by
  cases n with
  | zero => rfl
  | succ n => show (if st.2 ≠ 0 then _ else _) = _
              rw [if_pos h]
def StandsT (n : Nat) (st0 : ByteArray × Int) (acc : List ByteArray) (st : ByteArray × Int) : Prop :=
  acc.length ≤ n ∧ rdTs n st0 = (acc ++ (rdTs (n - acc.length) st).1, (rdTs (n - acc.length) st).2)
theorem StandsT.start (n : Nat) (st : ByteArray × Int) : StandsT n st [] st := ⟨Nat.zero_le _, by simp⟩
theorem StandsT.next {n : Nat} {st0 st : ByteArray × Int} {acc : List ByteArray} (h : StandsT n st0 acc st) (h0 : st.2 = 0) (hl : acc.length < n) : StandsT n st0 (acc ++ [(rdT st).1]) (rdT st).2 := by
  have e : n - acc.length = (n - (acc.length + 1)) + 1 := by omega
  have h2 := h.2
  rw [e, rdTs_step _ _ h0] at h2
  refine ⟨by simp; omega, ?_⟩
  rw [h2]; simp
theorem StandsT.done {n : Nat} {st0 st : ByteArray × Int} {acc : List ByteArray} (h : StandsT n st0 acc st) (hd : ¬ (acc.length < n ∧ st.2 = 0)) : rdTs n st0 = (acc, st) := by
  have h2 := h.2
  by_cases hl : acc.length < n
  · rw [rdTs_stop _ _ (fun g => hd ⟨hl, g⟩)] at h2
    simpa using h2
  · rw [show n - acc.length = 0 by have := h.1; omega] at h2
    simpa [rdTs] using h2
/-- What a reader does for a list. -/
def rdLs (st : ByteArray × Int) : List ByteArray × (ByteArray × Int) :=
  if st.2 ≠ 0 then ([], st) else
  if (rdN st).2.2 ≠ 0 then ([], (st.1, (rdN st).2.2)) else
  if 4096 < (rdN st).1 then ([], (st.1, 3)) else
  if (rdTs (rdN st).1 (rdN st).2).2.2 ≠ 0 then ([], (st.1, (rdTs (rdN st).1 (rdN st).2).2.2)) else
  rdTs (rdN st).1 (rdN st).2
theorem rdTs_size : ∀ (n : Nat) (st : ByteArray × Int), (rdTs n st).2.1.size ≤ st.1.size := by
  intro n
  induction n with
  | zero => intro st; exact Nat.le_refl _
  | succ n ih =>
    intro st
    by_cases h : st.2 = 0
    · rw [rdTs_step _ _ h]; exact Nat.le_trans (ih _) (rdT_size st)
    · rw [rdTs_stop _ _ h]; exact Nat.le_refl _
theorem rdLs_size (st : ByteArray × Int) : (rdLs st).2.1.size ≤ st.1.size := by
  unfold rdLs
  split
  · exact Nat.le_refl _
  · split
    · exact Nat.le_refl _
    · split
      · exact Nat.le_refl _
      · split
        · exact Nat.le_refl _
        · exact Nat.le_trans (rdTs_size _ _) (rdN_size st)
theorem rdTs_len : ∀ (n : Nat) (st : ByteArray × Int), (rdTs n st).1.length ≤ n := by
  intro n
  induction n with
  | zero => intro st; simp [rdTs]
  | succ n ih =>
    intro st
    by_cases h : st.2 = 0
    · rw [rdTs_step _ _ h]; have := ih (rdT st).2; simp; omega
    · rw [rdTs_stop _ _ h]; simp
theorem rdLs_len (st : ByteArray × Int) : (rdLs st).1.length ≤ 4096 := by
  unfold rdLs
  split
  · simp
  · split
    · simp
    · split
      · simp
      · split
        · simp
        · have := rdTs_len (rdN st).1 (rdN st).2; omega
theorem textR_err (s : ByteArray) (h : (textR s).2.2 ≠ 0) : (textR s).1 = ⟨#[]⟩ ∧ (textR s).2.1 = 0 := by
  unfold textR at h ⊢
  split
  · exact ⟨rfl, rfl⟩
  · split
    · exact ⟨rfl, rfl⟩
    · split
      · exact ⟨rfl, rfl⟩
      · rename_i a b c; rw [if_neg a, if_neg b, if_neg c] at h; exact absurd rfl h
theorem ext_ext (s : ByteArray) (a b : Nat) (h : a ≤ s.size) : (s.extract a s.size).extract b (s.extract a s.size).size = s.extract (a + b) s.size := by
  refine ba_ext ?_
  rw [ext_data, ext_data, ext_data, List.drop_drop]
/-- A text out of what is left from a place on. -/
theorem rdT_at (s : ByteArray) (k : Nat) (hk : k ≤ s.size) : rdT (s.extract k s.size, 0) = ((textR (s.extract k s.size)).1, (s.extract (k + (textR (s.extract k s.size)).2.1) s.size, (textR (s.extract k s.size)).2.2)) ∧ k + (textR (s.extract k s.size)).2.1 ≤ s.size := by
  have hz : (s.extract k s.size).size = s.size - k := by rw [ByteArray.size_extract]; omega
  by_cases h : (textR (s.extract k s.size)).2.2 = 0
  · have := textR_le _ h
    refine ⟨?_, by omega⟩
    unfold rdT
    rw [if_neg (by simp), if_neg (by simpa using h), h]
    show (_, (s.extract k s.size).extract _ (s.extract k s.size).size, (0 : Int)) = _
    rw [ext_ext s k _ hk]
  · obtain ⟨h1, h2⟩ := textR_err _ h
    refine ⟨?_, by omega⟩
    unfold rdT
    rw [if_neg (by simp), if_pos h, h1, h2, Nat.add_zero]

/-- A slice of texts that reads as l; one of the call's own. -/
abbrev RdS (w : World) (B : Nat) (A : Option Addr) (n : Nat) (l : List ByteArray) : Prop := Reads w B 1 A n (l.map Value.string)
abbrev OwnS (w : World) (base : Nat) (v : Value) (l : List ByteArray) : Prop := w.ownsRow base 9 1 v l.length (l.map Value.string)
theorem infoStr : (Try.prog.info? 9).map (fun i => (i.zero, i.size, i.bytes)) = some (some (.string ⟨#[]⟩), 1, 16) := by kernel_rfl
theorem sliceStr : Try.prog.underlying 199 = some (.slice 9) := by kernel_rfl
theorem OwnS.nil (w : World) (base : Nat) : OwnS w base (.slice none 0 0) [] := World.ownsRow_nil _ _ _ _
theorem RdS.len {w : World} {B : Nat} {A : Option Addr} {n : Nat} {l : List ByteArray} (h : RdS w B A n l) : l.length = n := by
  have := h.1; simpa using this
theorem OwnS.form {w : World} {base : Nat} {v : Value} {l : List ByteArray} (h : OwnS w base v l) : ∃ A c, v = .slice A l.length c ∧ l.length ≤ c ∧ RdS w w.heap.size A l.length l := by
  rcases h.2 with ⟨hv, hx⟩ | ⟨g, cap, cur, hv, _, _, hnc, _⟩
  · have hl : l = [] := List.eq_nil_of_length_eq_zero hx
    subst hl
    exact ⟨none, 0, hv, by simp, Reads.none_⟩
  · refine ⟨some ⟨g, 0, none⟩, cap, hv, hnc, ?_⟩
    subst hv
    exact Reads.of_own h
theorem OwnS.lenV {w : World} {base : Nat} {v : Value} {l : List ByteArray} (h : OwnS w base v l) : lenV v = l.length := own_lenV h
/-- append of one text. -/
theorem app_str {W : World} {base : Nat} {v : Value} {xs : List ByteArray} (t : ByteArray) (hown : OwnS W base v xs) (hn : xs.length < 999999999) (hb : base ≤ W.heap.size)
    {ops : Array Oper} {rest : List Oper} {o : Oper} {a : Act} {Q : Exit → Act → World → Prop} (hgd : o.guard = none) (s y : Operand)
    (ho : o.op = .call { callee := .builtin .append, args := #[s, y], argTypes := #[199, 199] })
    (hs : a.eval s = v) (g : Nat) (hg : W.heap.size = g) (hy : a.eval y = .slice (some ⟨g, 0, none⟩) 1 1)
    (h : ∀ v' w', OwnS w' base v' (xs ++ [t]) → Below base W w' → wpList Try.prog ops Q rest (a.put o.dst v') w') :
    wpList Try.prog ops Q (o :: rest) a (W.alloc (.cells #[.string t] 9)) := by
  subst hg
  refine app_one sliceStr infoStr rfl (by decide) (.string t) rfl hown (by omega) hb hgd s y ho hs hy ?_
  intro v' w' h1 h2
  refine h v' w' ?_ (below_app (Below.refl base W) hown (Nat.le_refl _) hb h2)
  show World.ownsRow _ _ _ _ _ _ _
  rw [List.length_append, List.length_singleton, List.map_append]
  exact h1
theorem sl3 {A A' : Option Addr} {n c : Nat} {b c2 b' c2' : Int} (h' : b = b') (h'' : c2 = c2') : Ending.returned (.tuple #[.slice A n c, .int .i64 b, .int .i64 c2]) = .returned (.tuple #[.slice A n c, .int .i64 b', .int .i64 c2']) := by rw [h', h'']

/-- What list answers: the texts, how many bytes, the error. -/
def listR (s : ByteArray) : List ByteArray × Nat × Int := if (rdLs (s, 0)).2.2 ≠ 0 then ([], 0, (rdLs (s, 0)).2.2) else ((rdLs (s, 0)).1, s.size - (rdLs (s, 0)).2.1.size, 0)
theorem numR_err (l : List UInt8) (h : (numR l).1 ≠ 0) : (numR l).2.1 = 0 ∧ (numR l).2.2 = 0 := by
  unfold numR at h ⊢
  split
  · exact ⟨rfl, rfl⟩
  · split
    · exact ⟨rfl, rfl⟩
    · split
      · exact ⟨rfl, rfl⟩
      · split
        · exact ⟨rfl, rfl⟩
        · rename_i a b c d; rw [if_neg a, if_neg b, if_neg c, if_neg d] at h; exact absurd rfl h

set_option maxHeartbeats 4000000 in
set_option maxRecDepth 100000 in
theorem list_c (s : ByteArray) (hs : s.size < 1000000000) (w : World) : Calls Try.prog 194 #[.string s] w fun e w' =>
    (∃ v, e = .returned (.tuple #[v, .int .i64 ((listR s).2.1 : Nat), .int .i64 (listR s).2.2]) ∧ OwnS w' w.heap.size v (listR s).1) ∧ Below w.heap.size w w' := by
  have hc := number_c s (by omega) w
  have hle := numR_le s
  have HERR : Hid ((numR s.data.toList).1 ≠ 0 → listR s = ([], 0, (numR s.data.toList).1)) := fun h => by
    have e1 : rdN (s, 0) = (0, (s, (numR s.data.toList).1)) := by unfold rdN; rw [if_neg (by simp), if_pos (by simpa using h)]
    have e2 : rdLs (s, 0) = ([], (s, (numR s.data.toList).1)) := by unfold rdLs; rw [if_neg (by simp), e1]; simp only; rw [if_pos h]
    unfold listR; rw [e2, if_pos h]
  have HNE := Lib.hid (numR_err s.data.toList)
  have HOK : Hid ((numR s.data.toList).1 = 0 → (4096 < (numR s.data.toList).2.1 → listR s = ([], 0, 3)) ∧ (¬ 4096 < (numR s.data.toList).2.1 → ∀ l st, rdTs (numR s.data.toList).2.1 (s.extract (numR s.data.toList).2.2 s.size, 0) = (l, st) →
      listR s = if st.2 ≠ 0 then ([], 0, st.2) else (l, s.size - st.1.size, 0))) := fun h => by
    have e1 : rdN (s, 0) = ((numR s.data.toList).2.1, (s.extract (numR s.data.toList).2.2 s.size, 0)) := by unfold rdN; rw [if_neg (by simp), if_neg (by simpa using h)]
    refine ⟨fun h1 => ?_, fun h1 l st hr => ?_⟩
    · have e2 : rdLs (s, 0) = ([], (s, 3)) := by unfold rdLs; rw [if_neg (by simp), e1]; simp only; rw [if_neg (by simp), if_pos h1]
      unfold listR; rw [e2]; rfl
    · by_cases h2 : st.2 = 0
      · have e2 : rdLs (s, 0) = (l, st) := by unfold rdLs; rw [if_neg (by simp), e1]; simp only; rw [if_neg (by simp), if_neg h1, hr, if_neg (by simpa using h2)]
        unfold listR; rw [e2, if_neg (by simpa using h2)]
      · have e2 : rdLs (s, 0) = ([], (s, st.2)) := by unfold rdLs; rw [if_neg (by simp), e1]; simp only; rw [if_neg (by simp), if_neg h1, hr, if_pos h2]
        unfold listR; rw [e2, if_pos h2, if_pos h2]
  generalize listR s = r at *
  obtain ⟨rl, rk, re⟩ := r
  generalize numR s.data.toList = nr at *
  obtain ⟨e, n, k⟩ := nr
  simp only at hc hle HERR HOK HNE ⊢
  by_cases he : e = 0
  · subst he
    obtain ⟨hk, hn⟩ := hle rfl
    have hoks := HOK.out rfl
    clear HERR HOK HNE hle
    by_cases hbig : 4096 < n
    · have HE := Lib.hid (hoks.1 hbig)
      have hd : decide ((n : Int) > 4096) = true := decide_eq_true (by omega)
      clear hoks
      go_enter Try.func194, Try.ntmps194
      go_wp2_with fail
      refine hc.mono ?_
      rintro e w' ⟨rfl, rfl⟩
      go_wp2_with fail
      go_loopw [6, 7, 8, 9, 10, 11] (fun v6 v7 v8 _ _ _ wr => v7 = .int .i64 3 ∧ v8 = .slice none 0 0 ∧ wr = w) (fun _ _ _ _ _ _ _ => 0)
      case atStart => exact ⟨rfl, rfl, rfl⟩
      case round =>
        obtain ⟨rfl, rfl, rfl⟩ := hrel
        go_wp2_with fail
        go_ret3
        have hE := HE.out
        injection hE with hE1 hE2
        injection hE2 with hE2 hE3
        subst hE1 hE2 hE3
        exact ⟨⟨_, rfl, OwnS.nil _ _⟩, Below.refl _ _⟩
    · have HD := Lib.hid (hoks.2 hbig)
      have hd : decide ((n : Int) > 4096) = false := decide_eq_false (by omega)
      clear hoks
      go_enter Try.func194, Try.ntmps194
      go_wp2_with fail
      refine hc.mono ?_
      rintro e w' ⟨rfl, rfl⟩
      go_wp2_with fail
      go_loopw [6, 7, 8, 9, 10, 11] (fun v6 v7 v8 _ _ _ wr => ∃ (acc : List ByteArray) (at' : Nat) (e2 : Int), v6 = .int .i64 at' ∧ at' ≤ s.size ∧ v7 = .int .i64 e2 ∧ Hid (OwnS wr w.heap.size v8 acc) ∧ Hid (Below w.heap.size w wr) ∧ Hid (StandsT n (s.extract k s.size, 0) acc (s.extract at' s.size, e2))) (fun _ _ v8 _ _ _ _ => n - lenV v8)
      case atStart => exact ⟨[], k, 0, rfl, hk, rfl, World.ownsRow_nil _ _ _ _, Below.refl _ _, StandsT.start _ _⟩
      case round =>
        obtain ⟨acc, at', e2, rfl, hat, rfl, HO, HB, HS⟩ := hrel
        obtain ⟨Ao, co, rfl, hco, hro⟩ := OwnS.form HO.out
        have HRO := Lib.hid hro
        have HCO := Lib.hid hco
        clear hro hco
        have hat2 : (0 : Int) ≤ (at' : Int) ∧ (at' : Int) ≤ (s.size : Int) := by omega
        by_cases he : e2 = 0
        · subst he
          by_cases hlt : acc.length < n
          · have hd3 : decide ((acc.length : Int) < (n : Int)) = true := decide_eq_true (by omega)
            have hn4 : n ≤ 4096 := by omega
            have HS2 := Lib.hid (HS.out.next rfl hlt)
            have hrd := rdT_at s at' hat
            have htx := fun W => text_c (s.extract at' s.size) (by have := extract_size s at'; omega) W
            rw [hrd.1] at HS2
            have hle2 := hrd.2
            clear hrd HS HRO HCO HD
            generalize textR (s.extract at' s.size) = tr at *
            obtain ⟨t1, k1, f1⟩ := tr
            simp only at htx HS2 hle2
            go_wp2_with fail
            refine (htx _).mono ?_
            rintro e w3 ⟨rfl, rfl⟩
            go_wp2_with (at_builtin; refine app_str t1 HO.out (by omega) HB.out.size rfl _ _ rfl rfl _ rfl rfl ?_; intro v5 w5 ho5 hb5)
            have HO5 := Lib.hid ho5
            have HB5 : Hid (Below w.heap.size w w5) := HB.out.trans hb5
            have hlen5 := OwnS.lenV ho5
            rw [List.length_append, List.length_singleton] at hlen5
            have HL5 := Lib.hid hlen5
            clear ho5 hb5 hlen5
            go_roundw
            case rel => exact ⟨_, at' + k1, f1, by go_num, hle2, rfl, HO5, HB5, HS2⟩
            case measure => (rw [HL5.out]; simp only [lenV]; omega)
          · have hd3 : decide ((acc.length : Int) < (n : Int)) = false := decide_eq_false (by omega)
            have HE : Hid ((rl, rk, re) = (acc, s.size - (s.extract at' s.size).size, 0)) := by
              show _ = _
              have := HD.out _ _ (HS.out.done (by simp only; omega))
              rwa [if_neg (by simp)] at this
            clear HD HS
            go_wp2_with fail
            go_ret3
            have hE := HE.out
            injection hE with hE1 hE2
            injection hE2 with hE2 hE3
            subst hE1 hE3
            refine ⟨⟨_, sl3 (A' := none) ?_ rfl, HO.out⟩, HB.out⟩
            rw [hE2, ByteArray.size_extract]; omega
        · have heb : (e2 == 0) = false := by simpa using he
          have heb2 : (e2 != 0) = true := by simpa using he
          have HE : Hid ((rl, rk, re) = ([], 0, e2)) := by
            show _ = _
            have := HD.out _ _ (HS.out.done (by simp only; omega))
            rwa [if_pos he] at this
          clear HD HS
          go_wp2_with fail
          go_ret3
          have hE := HE.out
          injection hE with hE1 hE2
          injection hE2 with hE2 hE3
          subst hE1 hE2 hE3
          exact ⟨⟨_, rfl, OwnS.nil _ _⟩, HB.out⟩
  · obtain ⟨hn0, hk0⟩ := HNE.out he
    subst hn0 hk0
    have HE := Lib.hid (HERR.out he)
    have heb : (e == 0) = false := by simpa using he
    have heb2 : (e != 0) = true := by simpa using he
    clear HERR HOK HNE hle
    go_enter Try.func194, Try.ntmps194
    go_wp2_with fail
    refine hc.mono ?_
    rintro e w' ⟨rfl, rfl⟩
    go_wp2_with fail
    go_loopw [6, 7, 8, 9, 10, 11] (fun v6 v7 v8 _ _ _ wr => v7 = .int .i64 e ∧ v8 = .slice none 0 0 ∧ wr = w) (fun _ _ _ _ _ _ _ => 0)
    case atStart => exact ⟨rfl, rfl, rfl⟩
    case round =>
      obtain ⟨rfl, rfl, rfl⟩ := hrel
      go_wp2_with fail
      go_ret3
      have hE := HE.out
      injection hE with hE1 hE2
      injection hE2 with hE2 hE3
      subst hE1 hE2 hE3
      exact ⟨⟨_, rfl, OwnS.nil _ _⟩, Below.refl _ _⟩
end Go.Proofs.Ytmhkalalcmkpbaa

namespace Go.Proofs.Ytmhkalalcmkpbaa
open Go.RowKit
set_option linter.unusedVariables false
set_option linter.unusedSimpArgs false

def Suf (s r : ByteArray) : Prop := ∃ k, k ≤ s.size ∧ r = s.extract k s.size
theorem Suf.refl (s : ByteArray) : Suf s s := ⟨0, Nat.zero_le _, ba_ext (by rw [ext_data]; rfl)⟩
theorem Suf.trans {a b c : ByteArray} (h : Suf a b) (k : Suf b c) : Suf a c := by
  obtain ⟨x, hx, rfl⟩ := h
  obtain ⟨y, hy, rfl⟩ := k
  rw [ByteArray.size_extract] at hy
  exact ⟨x + y, by omega, ext_ext a x y hx⟩
theorem Suf.at_ {s r : ByteArray} (h : Suf s r) : r = s.extract (s.size - r.size) s.size ∧ s.size - r.size ≤ s.size := by
  obtain ⟨k, hk, rfl⟩ := h
  refine ⟨?_, by omega⟩
  have : s.size - (s.extract k s.size).size = k := by rw [ByteArray.size_extract]; omega
  rw [this]
theorem suf_ext (s : ByteArray) (k : Nat) : Suf s (s.extract k s.size) := by
  by_cases h : k ≤ s.size
  · exact ⟨k, h, rfl⟩
  · refine ⟨s.size, Nat.le_refl _, ba_ext ?_⟩
    rw [ext_data, ext_data, List.drop_of_length_le (by rw [size_data]; omega), List.drop_of_length_le (by rw [size_data]; exact Nat.le_refl _)]
theorem rdN_suf (st : ByteArray × Int) : Suf st.1 (rdN st).2.1 := by
  unfold rdN
  split
  · exact Suf.refl _
  · split
    · exact Suf.refl _
    · exact suf_ext _ _
theorem rdT_suf (st : ByteArray × Int) : Suf st.1 (rdT st).2.1 := by
  unfold rdT
  split
  · exact Suf.refl _
  · split
    · exact Suf.refl _
    · exact suf_ext _ _
theorem rdTs_suf : ∀ (n : Nat) (st : ByteArray × Int), Suf st.1 (rdTs n st).2.1 := by
  intro n
  induction n with
  | zero => intro st; exact Suf.refl _
  | succ n ih =>
    intro st
    by_cases h : st.2 = 0
    · rw [rdTs_step _ _ h]; exact (rdT_suf st).trans (ih _)
    · rw [rdTs_stop _ _ h]; exact Suf.refl _
theorem rdLs_suf (st : ByteArray × Int) : Suf st.1 (rdLs st).2.1 := by
  unfold rdLs
  split
  · exact Suf.refl _
  · split
    · exact Suf.refl _
    · split
      · exact Suf.refl _
      · split
        · exact Suf.refl _
        · exact (rdN_suf st).trans (rdTs_suf _ _)
theorem listR_facts (s : ByteArray) : (listR s).2.2 = (rdLs (s, 0)).2.2 ∧ ((listR s).2.2 = 0 → (listR s).1 = (rdLs (s, 0)).1 ∧ (listR s).2.1 ≤ s.size ∧ s.extract (listR s).2.1 s.size = (rdLs (s, 0)).2.1) ∧ ((listR s).2.2 ≠ 0 → rdLs (s, 0) = ([], (s, (listR s).2.2))) := by
  have hsuf := (rdLs_suf (s, 0)).at_
  simp only at hsuf
  by_cases h : (rdLs (s, 0)).2.2 = 0
  · have e : listR s = ((rdLs (s, 0)).1, s.size - (rdLs (s, 0)).2.1.size, 0) := by unfold listR; rw [if_neg (by simpa using h)]
    rw [e]
    exact ⟨h.symm, fun _ => ⟨rfl, hsuf.2, hsuf.1.symm⟩, fun g => absurd rfl g⟩
  · have e : listR s = ([], 0, (rdLs (s, 0)).2.2) := by unfold listR; rw [if_pos h]
    rw [e]
    refine ⟨rfl, fun g => absurd g h, fun _ => ?_⟩
    show rdLs (s, 0) = ([], (s, (rdLs (s, 0)).2.2))
    unfold rdLs at h ⊢
    rw [if_neg (by simp)] at h ⊢
    by_cases h1 : (rdN (s, 0)).2.2 = 0
    · rw [if_neg (by simpa using h1)] at h ⊢
      by_cases h2 : 4096 < (rdN (s, 0)).1
      · rw [if_pos h2]
      · rw [if_neg h2] at h ⊢
        by_cases h3 : (rdTs (rdN (s, 0)).1 (rdN (s, 0)).2).2.2 = 0
        · rw [if_neg (by simpa using h3)] at h; exact absurd h3 h
        · rw [if_pos h3]
    · rw [if_pos h1]
theorem grown_none {w w' : World} {r : Option Nat} (h : Below w.heap.size w w') : w.grownBy w' r := grown_of_below h r
theorem grown_setCell2 {w w' : World} {g : Nat} (h : w.grownBy w' (some g)) (o : Nat) (u : Value) : w.grownBy (w'.setCell ⟨g, o, none⟩ u) (some g) :=
  ⟨h.os, h.tape, h.output, by simpa [World.setCell] using h.size, fun i hi hne => (Below.heap_setCell w' ⟨g, o, none⟩ u i (by rintro rfl; exact hne rfl)).trans (h.block i hi hne)⟩
theorem grown_cell2 {w w' : World} {p : Nat} (h : Below w.heap.size w w') (o : Nat) (u : Value) : w.grownBy (w'.setCell ⟨p, o, none⟩ u) (some p) := grown_setCell2 (grown_of_below h (some p)) o u

set_option maxHeartbeats 1000000 in
set_option maxRecDepth 100000 in
theorem takenl_c (p : Nat) (s : ByteArray) (e : Int) (w : World) (h : Rdr w p s e) (hs : s.size < 1000000000) :
    Calls Try.prog 193 #[.pointer (some ⟨p, 0, none⟩), .func (.func 194) #[] #[]] w fun r w' =>
      (∃ v, r = .returned v ∧ OwnS w' w.heap.size v (rdLs (s, e)).1) ∧ Rdr w' p (rdLs (s, e)).2.1 (rdLs (s, e)).2.2 ∧ w.grownBy w' (some p) := by
  have h0 := h.text
  have h1 := h.err
  have HL := Lib.hid (listR_facts s)
  have HH := Lib.hid h
  have hc := list_c s hs w
  by_cases he : e = 0
  · subst he
    generalize rdLs (s, 0) = q at *
    obtain ⟨ql, qs, qe⟩ := q
    generalize listR s = r at *
    obtain ⟨rt, rk, re⟩ := r
    simp only at hc HL ⊢
    by_cases hr : re = 0
    · subst hr
      obtain ⟨hl1, hl2, hl3⟩ := HL.out.2.1 rfl
      have hl0 := HL.out.1
      have HQ := Lib.hid (And.intro hl0 (And.intro hl1 hl3))
      have hk : (0 : Int) ≤ (rk : Int) ∧ (rk : Int) ≤ (s.size : Int) := by omega
      clear HL hl0 hl1 hl3 h
      go_enter Try.func193, Try.ntmps193
      go_wp2_with fail
      refine hc.mono ?_
      rintro e w1 ⟨⟨v, rfl, ho⟩, hb⟩
      have hR := HH.out.grown hb HH.out.lt
      have g0 := hR.text
      have g1 := hR.err
      have f0 := hR.free0
      have f1 := hR.free1
      have HRR := Lib.hid hR
      have HO := Lib.hid ho
      have HBB := Lib.hid hb
      clear hb ho hR
      go_wp2_with fail
      go_ret
      obtain ⟨q0, q1, q2⟩ := HQ.out
      subst q0 q1
      refine ⟨⟨_, rfl, own_grown HO.out (grown_cell _ p 0 _) HH.out.lt⟩, ?_, grown_cell2 HBB.out _ _⟩
      rw [← q2]; exact HRR.out.set0 _
    · have hl := HL.out.2.2 hr
      have hrb : (re != 0) = true := by simpa using hr
      have HQ := Lib.hid hl
      clear HL hl h
      go_enter Try.func193, Try.ntmps193
      go_wp2_with fail
      refine hc.mono ?_
      rintro e w1 ⟨⟨v, rfl, ho⟩, hb⟩
      have hR := HH.out.grown hb HH.out.lt
      have g0 := hR.text
      have g1 := hR.err
      have f0 := hR.free0
      have f1 := hR.free1
      have HRR := Lib.hid hR
      have HBB := Lib.hid hb
      clear hb ho hR
      go_wp2_with fail
      go_ret
      have hq := HQ.out
      injection hq with q0 q1
      injection q1 with q1 q2
      subst q0 q1 q2
      exact ⟨⟨_, rfl, OwnS.nil _ _⟩, HRR.out.set1 _, grown_cell2 HBB.out _ _⟩
  · have heb : (e != 0) = true := by simpa using he
    have hq : rdLs (s, e) = ([], (s, e)) := by unfold rdLs; rw [if_pos he]
    rw [hq]
    clear hq HL
    go_enter Try.func193, Try.ntmps193
    go_wp2
    go_ret
    exact ⟨⟨_, rfl, OwnS.nil _ _⟩, HH.out, World.grownBy.refl _ _⟩
set_option maxRecDepth 100000 in
theorem rlist_read (p : Nat) (s : ByteArray) (e : Int) (w : World) (h : Rdr w p s e) (hs : s.size < 1000000000) :
    Calls Try.prog 176 #[.pointer (some ⟨p, 0, none⟩)] w fun r w' =>
      (∃ v, r = .returned v ∧ OwnS w' w.heap.size v (rdLs (s, e)).1) ∧ Rdr w' p (rdLs (s, e)).2.1 (rdLs (s, e)).2.2 ∧ w.grownBy w' (some p) := by
  have ht := takenl_c p s e w h hs
  clear h
  generalize rdLs (s, e) = r at *
  obtain ⟨n, s', e'⟩ := r
  go_enter Try.func176, Try.ntmps176
  go_wp2_with (go_at_call 193; refine ht.mono ?_; rintro e w' ⟨⟨v, rfl, ho⟩, hrd, hgr⟩)
  go_ret
  exact ⟨⟨_, rfl, ho⟩, hrd, hgr⟩
end Go.Proofs.Ytmhkalalcmkpbaa

namespace Go.Proofs.Ytmhkalalcmkpbaa
open Go.RowKit
set_option linter.unusedVariables false
set_option linter.unusedSimpArgs false

theorem rdLs_ref (s : ByteArray) (e : Int) (e2 : Int) (he : e2 = if (rdN (s, e)).2.2 ≠ 0 then (rdN (s, e)).2.2 else if 4096 < (rdN (s, e)).1 then 3 else 0) :
    rdLs (s, e) = if (rdTs (rdN (s, e)).1 ((rdN (s, e)).2.1, e2)).2.2 ≠ 0 then ([], (s, (rdTs (rdN (s, e)).1 ((rdN (s, e)).2.1, e2)).2.2)) else rdTs (rdN (s, e)).1 ((rdN (s, e)).2.1, e2) := by
  by_cases h0 : e = 0
  · subst h0
    unfold rdLs
    rw [if_neg (by simp)]
    by_cases h1 : (rdN (s, 0)).2.2 = 0
    · rw [if_neg (by simpa using h1)] at he
      rw [if_neg (by simpa using h1)]
      by_cases h2 : 4096 < (rdN (s, 0)).1
      · rw [if_pos h2] at he; subst he
        rw [if_pos h2, rdTs_stop _ _ (by simp)]
        simp
      · rw [if_neg h2] at he; subst he
        rw [if_neg h2]
        have : ((rdN (s, 0)).2.1, (0 : Int)) = (rdN (s, 0)).2 := Prod.ext rfl h1.symm
        rw [this]
    · rw [if_pos h1] at he; subst he
      rw [if_pos h1, rdTs_stop _ _ h1]
      simp only
      rw [if_pos h1]
  · have hn := rdN_err (s := s) h0
    rw [hn] at he ⊢
    simp only at he ⊢
    rw [if_pos h0] at he; subst he
    unfold rdLs
    rw [if_pos h0]
    show _ = if (rdTs 0 (s, e2)).2.2 ≠ 0 then _ else _
    rw [show rdTs 0 (s, e2) = ([], (s, e2)) from rfl, if_pos h0]
theorem res_L (a : Act) (w : World) (g : Nat) (s : ByteArray) (e : Int) (v : Value) (h1 : a.tmps.getD 2 undef = .pointer (some ⟨g, 0, none⟩)) (h2 : a.tmps.getD 3 undef = v)
    (c0 : w.cell? ⟨g, 0, none⟩ = some (.string s)) (c1 : w.cell? ⟨g, 1, none⟩ = some (.int .i64 e)) :
    (results Try.f174 a.tmps).run Try.prog w = .ok (.tuple #[.agg #[.string s, .int .i64 e], v]) w := by
  rw [results_cell_tmp (p := 2) (u := 3) (ty := 127) rfl, h1, h2]
  go_simp

set_option maxHeartbeats 4000000 in
set_option maxRecDepth 100000 in
theorem rrlist_c (s : ByteArray) (e : Int) (hs : s.size < 1000000000) (w : World) :
    Calls Try.prog 174 #[.agg #[.string s, .int .i64 e]] w fun r w' => (∃ v, r = .returned (.tuple #[.agg #[.string (rdLs (s, e)).2.1, .int .i64 (rdLs (s, e)).2.2], v]) ∧ OwnS w' w.heap.size v (rdLs (s, e)).1) ∧ Below w.heap.size w w' := by
  have hc := fun W => rrnum_c s e (by omega) W
  have hz1 := rdN_size (s, e)
  have hnz := rdN_zero (s, e)
  have HR := Lib.hid (rdLs_ref s e)
  simp only at hz1
  generalize rdLs (s, e) = r at *
  generalize rdN (s, e) = q at *
  obtain ⟨n, s1, e1⟩ := q
  simp only at hc hz1 HR hnz
  have HNZ := Lib.hid hnz
  clear hnz
  have HB0 : KB w ((w.alloc (.cells #[.string s, .int .i64 e] 127)).alloc (.cells #[.string ⟨#[]⟩, .int .i64 0] 127)) := (KB.alloc (.mk (Below.refl _ _)) _).alloc _
  go_enter Try.func174, Try.ntmps174
  go_wp2_with fail
  refine (hc _).mono ?_
  rintro r0 w1 ⟨rfl, hb⟩
  have g0 : w1.cell? ⟨w.heap.size, 0, none⟩ = some (.string s) := keepc hb (by go_simp)
  have HBX : Hid (Below (w.heap.size + 2) ((w.alloc (.cells #[.string s, .int .i64 e] 127)).alloc (.cells #[.string ⟨#[]⟩, .int .i64 0] 127)) w1) := hb.mono (by simp)
  have HG0 : Hid (∀ X, Below w1.heap.size w1 X → X.cell? ⟨w.heap.size, 0, none⟩ = some (.string s) ∧ X.cell? ⟨w.heap.size + 1, 0, none⟩ = some (.string ⟨#[]⟩) ∧ X.cell? ⟨w.heap.size + 1, 1, none⟩ = some (.int .i64 0) ∧
      X.frozen? ⟨w.heap.size + 1, 0, none⟩ = false ∧ X.frozen? ⟨w.heap.size + 1, 1, none⟩ = false) := fun X hX => by
    have hs2 := hb.size
    simp at hs2
    refine ⟨keepc hX (keepc hb (by go_simp)), keepc hX (keepc hb (by go_simp)), keepc hX (keepc hb (by go_simp)), ?_, ?_⟩
    · exact (hX.frozen (p := ⟨w.heap.size + 1, 0, none⟩) (by show w.heap.size + 1 < _; omega)).trans ((hb.frozen (p := ⟨w.heap.size + 1, 0, none⟩) (by simp)).trans (by go_simp))
    · exact (hX.frozen (p := ⟨w.heap.size + 1, 1, none⟩) (by show w.heap.size + 1 < _; omega)).trans ((hb.frozen (p := ⟨w.heap.size + 1, 1, none⟩) (by simp)).trans (by go_simp))
  have HKB := Lib.hid (KB.call hb HB0).out
  have HSZ : Hid (w.heap.size + 1 < w1.heap.size) := by
    have := hb.size
    show _ < _
    simp at this; omega
  clear hb HB0 hc g0 HBX
  by_cases he1 : e1 = 0
  · subst he1
    by_cases hbig : 4096 < n
    · have HE := Lib.hid (HR.out 3 (by simp [hbig]))
      have hd : decide ((n : Int) > 4096) = true := decide_eq_true (by omega)
      have hd2 : decide ((0 : Int) < (n : Int)) = true := decide_eq_true (by omega)
      have hd4 : 0 < n := by omega
      clear HR HNZ
      go_wp2_with fail
      have HR0 : Hid (Rdr (w1.alloc (.cells #[.string s1, .int .i64 3] 127)) w1.heap.size s1 (3)) := Rdr.make _ _ _ _
      have HB1 : Hid (Below w1.heap.size w1 (w1.alloc (.cells #[.string s1, .int .i64 3] 127))) := (Below.refl _ _).alloc (Nat.le_refl _) _
      generalize hW : w1.alloc (.cells #[.string s1, .int .i64 3] 127) = w2 at *
      have HW2 : Hid (w1.heap.size < w2.heap.size) := HR0.out.lt
      clear hW
      go_loopw [6, 7, 8, 9] (fun vo vi _ _ wr => vo = .slice none 0 0 ∧ vi = .int .i64 0 ∧ wr = w2) (fun _ _ _ _ _ => 0)
      case atStart => exact ⟨rfl, rfl, rfl⟩
      case round =>
        obtain ⟨rfl, rfl, rfl⟩ := hrel
        have hcell0 := HR0.out.text
        have hcell1 := HR0.out.err
        obtain ⟨x0, x1, x2, x3, x4⟩ := HG0.out wr HB1.out
        have hcl : ∀ u v, Below w.heap.size w ((wr.setCell ⟨w.heap.size + 1, 0, none⟩ u).setCell ⟨w.heap.size + 1, 1, none⟩ v) := fun u v => ((HKB.out.trans (HB1.out.mono (Nat.le_of_lt (Nat.lt_of_le_of_lt (Nat.le_succ _) HSZ.out)))).setCell (by simp) _).setCell (by simp) _
        have HCL := Lib.hid hcl
        have HF : Hid (r = ([], (s, (3)))) := by
          show _ = _
          rw [HE.out, rdTs_stop _ _ (by first | (show (3 : Int) ≠ 0; decide) | exact he1)]
          simp only
          rw [if_pos (by first | (show (3 : Int) ≠ 0; decide) | exact he1)]
        clear hcl HE
        go_wp2_with fail
        refine bodyPost_ret (res_L _ _ (w.heap.size + 1) s (3) (.slice none 0 0) rfl rfl ?_ ?_) rfl ?_
        · go_simp
        · go_simp
        · have hF := HF.out
          rw [hF]
          exact ⟨⟨_, rfl, OwnS.nil _ _⟩, HCL.out _ _⟩
    · have HE := Lib.hid (HR.out 0 (by simp [hbig]))
      have hd : decide ((n : Int) > 4096) = false := decide_eq_false (by omega)
      clear HR HNZ
      go_wp2_with fail
      have HR0 : Hid (Rdr (w1.alloc (.cells #[.string s1, .int .i64 0] 127)) w1.heap.size s1 (0)) := Rdr.make _ _ _ _
      have HB1 : Hid (Below w1.heap.size w1 (w1.alloc (.cells #[.string s1, .int .i64 0] 127))) := (Below.refl _ _).alloc (Nat.le_refl _) _
      generalize hW : w1.alloc (.cells #[.string s1, .int .i64 0] 127) = w2 at *
      have HW2 : Hid (w1.heap.size < w2.heap.size) := HR0.out.lt
      clear hW
      go_loopw [6, 7, 8, 9] (fun vo vi _ _ wr => ∃ (acc : List ByteArray) (s2 : ByteArray) (e2 : Int), vi = .int .i64 acc.length ∧ acc.length ≤ n ∧ Hid (OwnS wr w2.heap.size vo acc) ∧ Hid (Rdr wr w1.heap.size s2 e2) ∧ Hid (Below w1.heap.size w1 wr) ∧ Hid (StandsT n (s1, 0) acc (s2, e2)) ∧ Hid (w2.heap.size ≤ wr.heap.size) ∧ s2.size ≤ s1.size) (fun _ vi _ _ _ => n - (intOf vi).toNat)
      case atStart => exact ⟨[], s1, 0, rfl, Nat.zero_le _, OwnS.nil _ _, HR0, HB1, StandsT.start _ _, Nat.le_refl _, Nat.le_refl _⟩
      case round =>
        clear HR0 HB1
        obtain ⟨acc, s2, e2, rfl, hal, HO, HRD, HB, HS, HWW, hsz2⟩ := hrel
        obtain ⟨Ao, co, rfl, hco, hro⟩ := OwnS.form HO.out
        clear hro hco
        have hcell0 := HRD.out.text
        have hcell1 := HRD.out.err
        have hfr0 := HRD.out.free0
        have hfr1 := HRD.out.free1
        by_cases hgo : acc.length < n ∧ e2 = 0
        · obtain ⟨hlt, rfl⟩ := hgo
          have hd3 : decide ((acc.length : Int) < (n : Int)) = true := decide_eq_true (by omega)
          have hn4 : n ≤ 4096 := by omega
          have HS2 := Lib.hid (HS.out.next rfl hlt)
          have hn1 := rrtext_c s2 0 (by omega) wr
          have hz2 := rdT_size (s2, 0)
          simp only at hz2
          generalize rdT (s2, 0) = y at *
          obtain ⟨t1, s3, e3⟩ := y
          simp only at hn1 hz2 HS2
          clear HS HE
          go_wp2_with fail
          refine hn1.mono ?_
          rintro e w3 ⟨rfl, hb3⟩
          have hr3 : Rdr (w3.alloc (.cells #[.string s3, .int .i64 e3] 127)) w1.heap.size s2 0 := (HRD.out.grown hb3 HRD.out.lt).alloc _
          have HO3 := Lib.hid (own_grown (own_grown ((own_below HO.out hb3).alloc (.cells #[.string s3, .int .i64 e3] 127)) (grown_cell _ w1.heap.size 0 (.string s3)) HW2.out) (grown_cell _ w1.heap.size 1 (.int .i64 e3)) HW2.out)
          have HR3 := Lib.hid ((hr3.set0 s3).set1 e3)
          have HB3 : Hid (Below w1.heap.size w1 (((w3.alloc (.cells #[.string s3, .int .i64 e3] 127)).setCell ⟨w1.heap.size, 0, none⟩ (.string s3)).setCell ⟨w1.heap.size, 1, none⟩ (.int .i64 e3))) := (((HB.out.trans (hb3.mono HB.out.size)).alloc (Nat.le_trans HB.out.size hb3.size) _).setCell (Nat.le_refl _) _).setCell (Nat.le_refl _) _
          have HW3 : Hid (w2.heap.size ≤ (((w3.alloc (.cells #[.string s3, .int .i64 e3] 127)).setCell ⟨w1.heap.size, 0, none⟩ (.string s3)).setCell ⟨w1.heap.size, 1, none⟩ (.int .i64 e3)).heap.size) := by show _ ≤ _; have h1 := HWW.out; have h2 := hb3.size; simp [World.setCell]; omega
          have k0 := hr3.text
          have k1 := hr3.err
          have k2 := hr3.free0
          have k3 := hr3.free1
          clear hn1 hb3 hr3 hcell0 hcell1 hfr0 hfr1
          go_wp2_with (at_builtin; refine app_str t1 HO3.out (by omega) HW3.out rfl _ _ rfl rfl (w3.heap.size + 1) (by simp) rfl ?_; intro v5 w5 ho5 hb5)
          have HO5 := Lib.hid ho5
          have HR5 : Hid (Rdr w5 w1.heap.size s3 e3) := HR3.out.grown hb5 HW2.out
          have HB5 : Hid (Below w1.heap.size w1 w5) := HB3.out.trans (hb5.mono (Nat.le_of_lt HW2.out))
          have HW5 : Hid (w2.heap.size ≤ w5.heap.size) := Nat.le_trans HW3.out hb5.size
          clear ho5 hb5
          go_roundw
          case rel => exact ⟨_, s3, e3, by rw [List.length_append, List.length_singleton]; go_num, by rw [List.length_append, List.length_singleton]; exact hlt, HO5, HR5, HB5, HS2, HW5, by omega⟩
          case measure => simp [intOf]; omega
        · have HDN := Lib.hid (HS.out.done hgo)
          obtain ⟨x0, x1, x2, x3, x4⟩ := HG0.out wr HB.out
          have hcl : ∀ u v, Below w.heap.size w ((wr.setCell ⟨w.heap.size + 1, 0, none⟩ u).setCell ⟨w.heap.size + 1, 1, none⟩ v) := fun u v => ((HKB.out.trans (HB.out.mono (Nat.le_of_lt (Nat.lt_of_le_of_lt (Nat.le_succ _) HSZ.out)))).setCell (by simp) _).setCell (by simp) _
          have HCL := Lib.hid hcl
          have hcl2 : ∀ u v, OwnS ((wr.setCell ⟨w.heap.size + 1, 0, none⟩ u).setCell ⟨w.heap.size + 1, 1, none⟩ v) w.heap.size (.slice Ao acc.length co) acc := fun u v =>
            World.ownsRow.mono (own_grown (own_grown HO.out (grown_cell _ (w.heap.size + 1) 0 u) (Nat.lt_trans HSZ.out HW2.out)) (grown_cell _ (w.heap.size + 1) 1 v) (Nat.lt_trans HSZ.out HW2.out)) (by have := HSZ.out; have := HW2.out; omega)
          have HCL2 := Lib.hid hcl2
          clear hcl hcl2 HS
          by_cases he2 : e2 = 0
          · subst he2
            have hlt : ¬ acc.length < n := fun h => hgo ⟨h, rfl⟩
            have hd3 : decide ((acc.length : Int) < (n : Int)) = false := decide_eq_false (by omega)
            have HF : Hid (r = (acc, (s2, 0))) := by
              show _ = _
              rw [HE.out, HDN.out, if_neg (by simp)]
            clear HE HDN hgo
            go_wp2_with fail
            refine bodyPost_ret (res_L _ _ (w.heap.size + 1) s2 0 (.slice Ao acc.length co) rfl rfl ?_ ?_) rfl ?_
            · go_simp
            · go_simp
            · have hF := HF.out
              rw [hF]
              exact ⟨⟨_, rfl, HCL2.out _ _⟩, HCL.out _ _⟩
          · have heb2 : (e2 == 0) = false := by simpa using he2
            have heb3 : (e2 != 0) = true := by simpa using he2
            have HF : Hid (r = ([], (s, e2))) := by
              show _ = _
              rw [HE.out, HDN.out, if_pos he2]
            clear HE HDN hgo
            by_cases hlt : acc.length < n
            · have hd3 : decide ((acc.length : Int) < (n : Int)) = true := decide_eq_true (by omega)
              go_wp2_with fail
              refine bodyPost_ret (res_L _ _ (w.heap.size + 1) s e2 (.slice none 0 0) rfl rfl ?_ ?_) rfl ?_
              · go_simp
              · go_simp
              · have hF := HF.out
                rw [hF]
                exact ⟨⟨_, rfl, OwnS.nil _ _⟩, HCL.out _ _⟩
            · have hd3 : decide ((acc.length : Int) < (n : Int)) = false := decide_eq_false (by omega)
              go_wp2_with fail
              refine bodyPost_ret (res_L _ _ (w.heap.size + 1) s e2 (.slice none 0 0) rfl rfl ?_ ?_) rfl ?_
              · go_simp
              · go_simp
              · have hF := HF.out
                rw [hF]
                exact ⟨⟨_, rfl, OwnS.nil _ _⟩, HCL.out _ _⟩
  · have HE := Lib.hid (HR.out e1 (by simp [he1]))
    have hn0 := HNZ.out he1
    subst hn0
    have heb : (e1 == 0) = false := by simpa using he1
    clear HR HNZ
    go_wp2_with fail
    have HR0 : Hid (Rdr (w1.alloc (.cells #[.string s1, .int .i64 e1] 127)) w1.heap.size s1 (e1)) := Rdr.make _ _ _ _
    have HB1 : Hid (Below w1.heap.size w1 (w1.alloc (.cells #[.string s1, .int .i64 e1] 127))) := (Below.refl _ _).alloc (Nat.le_refl _) _
    generalize hW : w1.alloc (.cells #[.string s1, .int .i64 e1] 127) = w2 at *
    have HW2 : Hid (w1.heap.size < w2.heap.size) := HR0.out.lt
    clear hW
    go_loopw [6, 7, 8, 9] (fun vo vi _ _ wr => vo = .slice none 0 0 ∧ vi = .int .i64 0 ∧ wr = w2) (fun _ _ _ _ _ => 0)
    case atStart => exact ⟨rfl, rfl, rfl⟩
    case round =>
      obtain ⟨rfl, rfl, rfl⟩ := hrel
      have hcell0 := HR0.out.text
      have hcell1 := HR0.out.err
      obtain ⟨x0, x1, x2, x3, x4⟩ := HG0.out wr HB1.out
      have hcl : ∀ u v, Below w.heap.size w ((wr.setCell ⟨w.heap.size + 1, 0, none⟩ u).setCell ⟨w.heap.size + 1, 1, none⟩ v) := fun u v => ((HKB.out.trans (HB1.out.mono (Nat.le_of_lt (Nat.lt_of_le_of_lt (Nat.le_succ _) HSZ.out)))).setCell (by simp) _).setCell (by simp) _
      have HCL := Lib.hid hcl
      have HF : Hid (r = ([], (s, (e1)))) := by
        show _ = _
        rw [HE.out, rdTs_stop _ _ (by first | (show (3 : Int) ≠ 0; decide) | exact he1)]
        simp only
        rw [if_pos (by first | (show (3 : Int) ≠ 0; decide) | exact he1)]
      clear hcl HE
      go_wp2_with fail
      refine bodyPost_ret (res_L _ _ (w.heap.size + 1) s (e1) (.slice none 0 0) rfl rfl ?_ ?_) rfl ?_
      · go_simp
      · go_simp
      · have hF := HF.out
        rw [hF]
        exact ⟨⟨_, rfl, OwnS.nil _ _⟩, HCL.out _ _⟩
end Go.Proofs.Ytmhkalalcmkpbaa

namespace Go.Proofs.Ytmhkalalcmkpbaa
open Go.RowKit
set_option linter.unusedVariables false
set_option linter.unusedSimpArgs false

/-- The digit of a number, and the number of a digit. -/
def dig (k : Nat) : Nat := if k < 10 then 48 + k else 87 + k
def isHex (c : Nat) : Bool := (48 ≤ c && c ≤ 57) || (97 ≤ c && c ≤ 102)
def hexV (c : Nat) : Nat := if 48 ≤ c ∧ c ≤ 57 then c - 48 else c - 87
theorem dig_hex : ∀ k : Fin 16, isHex (dig k.val) = true ∧ hexV (dig k.val) = k.val := by decide
theorem hex_dig (c : Nat) (h : isHex c = true) : hexV c < 16 ∧ dig (hexV c) = c := by
  unfold isHex at h
  simp only [Bool.or_eq_true, Bool.and_eq_true, decide_eq_true_eq] at h
  unfold hexV dig
  split <;> split <;> omega
def digs : ByteArray := ⟨#[48, 49, 50, 51, 52, 53, 54, 55, 56, 57, 97, 98, 99, 100, 101, 102]⟩
theorem digs_at : ∀ k : Fin 16, (digs[k.val]'(by show k.val < 16; exact k.isLt)).toNat = dig k.val := by decide

/-- Where a string's iterator stands. -/
def iterAt (w : World) (b : Nat) : Nat := match w.heap[b]? with
  | some (.stringIter _ p) => p
  | _ => 0
theorem iterAt_iter (w : World) (s : ByteArray) (p : Nat) : iterAt (w.iter s p) w.heap.size = p := by unfold iterAt; rw [World.iter_heap]
set_option maxHeartbeats 1000000 in
set_option maxRecDepth 100000 in
theorem half_c (c : Nat) (hc : c < 256) (w : World) : Calls Try.prog 205 #[.int .u8 c] w fun e w' => (∃ n : Nat, e = .returned (.tuple #[.int .u8 n, .bool (isHex c)]) ∧ n < 256) ∧ Below w.heap.size w w' := by
  have HSZ : digs.size = 16 := rfl
  have HNX : Hid (∀ (k : Nat) (hk : k < 16) (ty : TypeId), (Instr.next (.pointer (some ⟨w.heap.size, 0, none⟩)) true ty).run Try.prog (w.iter digs k) = .ok (.tuple #[.bool true, .int .i64 k, .int .i32 (dig k)]) (w.iter digs (k + 1))) := fun k hk ty => by
    have ha := digs_at ⟨k, hk⟩
    have hd : dig k < 128 := by unfold dig; split <;> omega
    have h := run_next_ascii (P := Try.prog) w digs k ty (by show k < 16; exact hk) (by rw [ha]; exact hd)
    rw [ha] at h
    exact h
  have HNE : Hid (∀ (ty : TypeId), (Instr.next (.pointer (some ⟨w.heap.size, 0, none⟩)) true ty).run Try.prog (w.iter digs 16) = .ok (.tuple #[.bool false]) (w.iter digs 16)) := fun ty => run_next_end (P := Try.prog) w digs 16 ty (by show ¬ 16 < 16; decide)
  have HB : Hid (∀ k, Below w.heap.size w (w.iter digs k)) := fun k => (Below.refl _ _).alloc (Nat.le_refl _) _
  clear HSZ
  go_enter Try.func205, Try.ntmps205
  go_wp2_with fail
  rw [show (ByteArray.mk #[48, 49, 50, 51, 52, 53, 54, 55, 56, 57, 97, 98, 99, 100, 101, 102]) = digs from rfl]
  generalize hD : digs = D at *
  clear hD
  go_loopw [4, 5] (fun _ _ wr => ∃ k : Nat, k ≤ 16 ∧ wr = w.iter D k ∧ Hid (∀ j, j < k → dig j ≠ c)) (fun _ _ wr => 16 - iterAt wr w.heap.size)
  case atStart => exact ⟨0, by omega, rfl, fun j hj => by omega⟩
  case round =>
    obtain ⟨k, hk, rfl, HJ⟩ := hrel
    by_cases hlt : k < 16
    · have hnx := HNX.out k hlt
      have hdg : dig k < 128 := by unfold dig; split <;> omega
      by_cases he : dig k = c
      · have HE : Hid (isHex c = true) := by show _ = _; rw [← he]; exact (dig_hex ⟨k, hlt⟩).1
        have hb : (((dig k : Nat) : Int) == (c : Int)) = true := by rw [he]; simp
        have HK : Hid (k < 256) := by show _ < _; omega
        clear he HJ
        go_wp2_with fail
        go_ret2
        exact ⟨⟨k, by rw [HE.out]; rfl, HK.out⟩, HB.out _⟩
      · have hb : (((dig k : Nat) : Int) == (c : Int)) = false := by rw [beq_eq_false_iff_ne]; omega
        have HJ2 : Hid (∀ j, j < k + 1 → dig j ≠ c) := fun j hj => by
          rcases Nat.lt_or_ge j k with g | g
          · exact HJ.out j g
          · obtain rfl : j = k := by omega
            exact he
        clear he HJ
        go_wp2_with fail
        go_roundw
        case rel => exact ⟨k + 1, by omega, rfl, HJ2⟩
        case measure => (rw [iterAt_iter, iterAt_iter]; omega)
    · obtain rfl : k = 16 := by omega
      have hne := HNE.out
      have HE : Hid (isHex c = false) := by
        show _ = _
        cases h : isHex c with
        | false => rfl
        | true =>
          obtain ⟨h1, h2⟩ := hex_dig c h
          exact absurd h2 (HJ.out _ h1)
      clear HJ
      go_wp2_with fail
      go_ret2
      exact ⟨⟨0, by rw [HE.out]; rfl, by omega⟩, HB.out _⟩

/-- Why a text is no digits. -/
def allHex (l : List UInt8) : Bool := l.all fun c => isHex c.toNat
def hexE (s : ByteArray) : Int := if s.size % 2 = 1 then 5 else if allHex s.data.toList = true then 0 else 5
def idE (s : ByteArray) : Int := if hexE s = 0 ∧ s.size = 64 then 0 else 5
theorem make_u8 (n : Nat) (hn : n < 1000000000) (w : World) : (Instr.makeSlice 155 (.int .i64 0) (.int .i64 (n : Int))).run Try.prog w = .ok (.slice (some ⟨w.heap.size, 0, none⟩) 0 n) (w.alloc (.cells (madeCells #[.int .u8 0] n) 5)) := by
  obtain ⟨i, hi, hz, hsz, hby⟩ := info_parts info8
  have hb : (i.bytes : Int) * (n : Int) ≤ 281474976710656 := by rw [hby]; omega
  have h := run_make (P := Try.prog) w 155 5 i (.int .u8 0) slice8 hi hz .i64 .i64 0 (n : Int) (by omega) (by omega) hb (by omega)
  simp only [Int.toNat_natCast, hsz, Nat.mul_one] at h
  exact h
theorem conv_any (w : World) (base : Nat) (v : Value) (n : Nat) (xs : List Int) (hn : xs.length = n) (hown : w.ownsRow base 5 1 v n (xs.map (Value.int .u8))) :
    ∃ t, (convert 155 9 v).run Try.prog w = .ok (.string t) w := by
  rcases Nat.eq_zero_or_pos n with h0 | h0
  · subst h0
    have hx : xs = [] := List.eq_nil_of_length_eq_zero hn
    subst hx
    rcases hown.2 with ⟨rfl, _⟩ | ⟨g, cap, cur, rfl, _⟩
    · exact ⟨⟨#[]⟩, by kernel_rfl⟩
    · refine ⟨_, run_convert_bytes_arg (P := Try.prog) w 155 5 slice8 (by kernel_rfl) g 0 0 cap [] rfl (fun i hi => by omega) 9 (by kernel_rfl)⟩
  · exact ⟨_, conv_own w base v n xs hn h0 hown⟩
theorem allHex_two (t : ByteArray) (h : 2 ≤ t.size) : allHex t.data.toList = (isHex (t[0]'(by omega)).toNat && isHex (t[1]'(by omega)).toNat && allHex (t.extract 2 t.size).data.toList) := by
  rw [ext_data]
  have hl : 2 ≤ t.data.toList.length := by rw [size_data]; exact h
  have e0 : t[0]'(by omega) = t.data.toList.getD 0 0 := at_get t 0 (by omega)
  have e1 : t[1]'(by omega) = t.data.toList.getD 1 0 := at_get t 1 (by omega)
  rw [e0, e1]
  generalize t.data.toList = l at *
  match l, hl with
  | a :: b :: r, _ => simp [allHex, Bool.and_assoc]

/-- A text's length. -/
def sizeV : Value → Nat
  | .string s => s.size
  | _ => 0
set_option maxHeartbeats 2000000 in
set_option maxRecDepth 100000 in
theorem hread_c (s : ByteArray) (hs : s.size < 1000000000) (w : World) : Calls Try.prog 202 #[.string s] w fun e w' => (∃ t, e = .returned (.tuple #[.string t, .int .i64 (hexE s)])) ∧ Below w.heap.size w w' := by
  generalize hr : hexE s = r
  have HR := Lib.hid hr
  clear hr
  by_cases hodd : s.size % 2 = 1
  · have HE : Hid (r = 5) := by show _ = _; rw [← HR.out]; unfold hexE; rw [if_pos hodd]
    have hd : (((s.size : Int) % 2) != 0) = true := by rw [bne_iff_ne]; omega
    clear HR
    go_enter Try.func202, Try.ntmps202
    go_wp2
    go_ret2
    exact ⟨⟨⟨#[]⟩, by rw [HE.out]; rfl⟩, Below.refl _ _⟩
  · have HE : Hid (r = if allHex s.data.toList = true then 0 else 5) := by show _ = _; rw [← HR.out]; unfold hexE; rw [if_neg hodd]
    have hd : (((s.size : Int) % 2) != 0) = false := by rw [bne_eq_false_iff_eq]; omega
    have hmk := make_u8 (s.size / 2) (by omega) w
    have hq : (((s.size / 2 : Nat)) : Int) = (s.size : Int) / 2 := by omega
    rw [hq] at hmk
    have HEV : Hid (s.size % 2 = 0) := by show _ = _; omega
    have HO : Hid ((w.alloc (.cells (madeCells #[.int .u8 0] (s.size / 2)) 5)).ownsRow w.heap.size 5 1 (.slice (some ⟨w.heap.size, 0, none⟩) 0 (s.size / 2)) 0 (([] : List Int).map (Value.int .u8))) :=
      World.ownsRow_made _ _ _ (Nat.le_refl _) (by simp only [maxLen]; omega) (by simp [madeCells])
    have HB : Hid (Below w.heap.size w (w.alloc (.cells (madeCells #[.int .u8 0] (s.size / 2)) 5))) := (Below.refl _ _).alloc (Nat.le_refl _) _
    clear HR hq hodd
    go_enter Try.func202, Try.ntmps202
    go_wp2_with fail
    go_loopw [0, 4, 5, 6, 7, 8] (fun vt vb _ _ _ _ wr => ∃ (t : ByteArray) (xs : List Int), vt = .string t ∧ t.size ≤ s.size ∧ t.size % 2 = 0 ∧ xs.length * 2 + t.size = s.size ∧ Hid (wr.ownsRow w.heap.size 5 1 vb xs.length (xs.map (Value.int .u8))) ∧ Hid (Below w.heap.size w wr) ∧ Hid (allHex s.data.toList = allHex t.data.toList)) (fun vt _ _ _ _ _ _ => sizeV vt)
    case atStart => exact ⟨s, [], rfl, Nat.le_refl _, HEV.out, by simp, HO, HB, rfl⟩
    case round =>
      clear HO HB
      obtain ⟨t, xs, rfl, hts, htm, hxt, HO, HB, HA⟩ := hrel
      have hse := str_empty_iff t
      by_cases h0 : t.size = 0
      · rw [decide_eq_true h0] at hse
        have hse2 : t.toList = [] := by simpa using hse
        have HT : Hid (r = 0) := by
          show _ = _
          have hz : t.data.toList = [] := List.eq_nil_of_length_eq_zero (by rw [size_data]; exact h0)
          rw [HE.out, HA.out, hz]; rfl
        obtain ⟨u, hcv⟩ := conv_any wr w.heap.size _ xs.length xs rfl HO.out
        clear HE HA
        go_wp2_with fail
        go_ret2
        exact ⟨⟨u, by rw [HT.out]; rfl⟩, HB.out⟩
      · rw [decide_eq_false h0] at hse
        have hse2 : ¬ t.toList = [] := fun h => by rw [h] at hse; cases hse
        have h2 : 2 ≤ t.size := by omega
        have HA2 := Lib.hid (HA.out.trans (allHex_two t h2))
        have hk0 := fun W => half_c (t[0]'(by omega)).toNat (t[0]'(by omega)).toNat_lt W
        have hk1 := fun W => half_c (t[1]'(by omega)).toNat (t[1]'(by omega)).toNat_lt W
        have hb0 : (0 : Int) ≤ 2 ∧ (2 : Int) ≤ (t.size : Int) := by omega
        have h01 : 0 < t.size := by omega
        have h11 : 1 < t.size := by omega
        generalize hc0 : isHex (t[0]'(by omega)).toNat = b0 at *
        generalize hc1 : isHex (t[1]'(by omega)).toNat = b1 at *
        clear hc0 hc1
        go_wp2_with fail
        refine (hk0 _).mono ?_
        rintro e w3 ⟨⟨n0, rfl, hn0⟩, hb3⟩
        have HO3 := Lib.hid (own_below HO.out hb3)
        have HB3 : Hid (Below w.heap.size w w3) := HB.out.trans (hb3.mono HB.out.size)
        clear hk0 hb3
        go_wp2_with fail
        refine (hk1 _).mono ?_
        rintro e w4 ⟨⟨n1, rfl, hn1⟩, hb4⟩
        have HO4 := Lib.hid (own_below HO3.out hb4)
        have HB4 : Hid (Below w.heap.size w w4) := HB3.out.trans (hb4.mono HB3.out.size)
        clear hk1 hb4 HO3 HB3
        cases b0 with
        | false =>
          have HF : Hid (r = 5) := by show _ = _; rw [HE.out, HA2.out]; simp
          clear HE HA HA2
          go_wp2_with fail
          go_ret2
          exact ⟨⟨⟨#[]⟩, by rw [HF.out]; rfl⟩, HB4.out⟩
        | true =>
          cases b1 with
          | false =>
            have HF : Hid (r = 5) := by show _ = _; rw [HE.out, HA2.out]; simp
            clear HE HA HA2
            go_wp2_with fail
            go_ret2
            exact ⟨⟨⟨#[]⟩, by rw [HF.out]; rfl⟩, HB4.out⟩
          | true =>
            have HA3 : Hid (allHex s.data.toList = allHex (t.extract 2 t.size).data.toList) := by show _ = _; rw [HA2.out]; simp
            have hz : (t.extract 2 t.size).size = t.size - 2 := by rw [ByteArray.size_extract]; omega
            have HZ := Lib.hid hz
            clear HE HA HA2 hz
            go_wp2_with (at_builtin; refine app_one slice8 info8 rfl (by decide) (.int .u8 _) rfl HO4.out (by omega) HB4.out.size rfl _ _ rfl rfl rfl ?_; intro v5 w5 ho5 hg5)
            obtain ⟨z, HO5⟩ : ∃ z : Int, Hid (w5.ownsRow w.heap.size 5 1 v5 (xs ++ [z]).length ((xs ++ [z]).map (Value.int .u8))) := ⟨_, by show World.ownsRow _ _ _ _ _ _ _; rw [List.map_append, List.length_append]; exact ho5⟩
            have HB5 : Hid (Below w.heap.size w w5) := HB4.out.trans (below_app (Below.refl _ _) HO4.out (Nat.le_refl _) HB4.out.size hg5)
            clear ho5 hg5
            go_roundw
            case rel => exact ⟨_, xs ++ [z], rfl, by rw [HZ.out]; omega, by rw [HZ.out]; omega, by rw [HZ.out, List.length_append, List.length_singleton]; omega, HO5, HB5, HA3⟩
            case measure => show (t.extract 2 t.size).size < t.size; rw [HZ.out]; omega

set_option maxRecDepth 100000 in
theorem hcheck_c (s : ByteArray) (hs : s.size < 1000000000) (w : World) : Calls Try.prog 196 #[.string s] w fun e w' => e = .returned (.int .i64 (idE s)) ∧ Below w.heap.size w w' := by
  have hc := hread_c s hs w
  have hid : idE s = if hexE s = 0 ∧ s.size = 64 then 0 else 5 := rfl
  generalize idE s = r at *
  generalize hexE s = e at *
  have HR := Lib.hid hid
  clear hid
  by_cases he : e = 0
  · subst he
    by_cases hz : s.size = 64
    · have HE : Hid (r = 0) := by show _ = _; rw [HR.out, if_pos ⟨rfl, hz⟩]
      have hb : ((s.size : Int) != 64) = false := by rw [bne_eq_false_iff_eq]; omega
      clear HR hz
      go_enter Try.func196, Try.ntmps196
      go_wp2_with (go_at_call 202; refine hc.mono ?_; rintro e w' ⟨⟨t, rfl⟩, hb⟩)
      go_ret
      exact ⟨ret_int HE.out.symm, by assumption⟩
    · have HE : Hid (r = 5) := by show _ = _; rw [HR.out, if_neg (fun h => hz h.2)]
      have hb : ((s.size : Int) != 64) = true := by rw [bne_iff_ne]; omega
      clear HR hz
      go_enter Try.func196, Try.ntmps196
      go_wp2_with (go_at_call 202; refine hc.mono ?_; rintro e w' ⟨⟨t, rfl⟩, hb⟩)
      go_ret
      exact ⟨ret_int HE.out.symm, by assumption⟩
  · have HE : Hid (r = 5) := by show _ = _; rw [HR.out, if_neg (fun h => he h.1)]
    have hb : (e != 0) = true := by simpa using he
    clear HR
    go_enter Try.func196, Try.ntmps196
    go_wp2_with (go_at_call 202; refine hc.mono ?_; rintro e w' ⟨⟨t, rfl⟩, hb⟩)
    go_ret
    exact ⟨ret_int HE.out.symm, by assumption⟩
end Go.Proofs.Ytmhkalalcmkpbaa

namespace Go.Proofs.Ytmhkalalcmkpbaa
open Go.RowKit
set_option linter.unusedVariables false
set_option linter.unusedSimpArgs false

/-- What the reference's half answers. -/
def rhex (c : Nat) : Nat := if isHex c = true then hexV c else 16
set_option maxRecDepth 100000 in
theorem digit_c (n : Nat) (hn : n < 16) (w : World) : Calls Try.prog 206 #[.int .u8 n] w fun e w' => e = .returned (.int .u8 (dig n)) ∧ w' = w := by
  by_cases h : n < 10
  · have hd : dig n = 48 + n := if_pos h
    rw [hd]; clear hd
    have hd2 : decide ((n : Int) < 10) = true := decide_eq_true (by omega)
    go_enter Try.func206, Try.ntmps206
    go_wp2
    go_ret
    exact ⟨by simp, rfl⟩
  · have hd : dig n = 87 + n := if_neg h
    rw [hd]; clear hd
    have hd2 : decide ((n : Int) < 10) = false := decide_eq_false (by omega)
    go_enter Try.func206, Try.ntmps206
    go_wp2
    go_ret
    exact ⟨by simp, rfl⟩

set_option maxHeartbeats 1000000 in
set_option maxRecDepth 100000 in
theorem rhalf_c (c : Nat) (hc : c < 256) (w : World) : Calls Try.prog 204 #[.int .u8 c] w fun e w' => e = .returned (.int .u8 (rhex c)) ∧ w' = w := by
  generalize hr : rhex c = r
  have HR := Lib.hid hr
  clear hr
  go_enter Try.func204, Try.ntmps204
  go_wp2_with fail
  go_loopw [3] (fun vk wr => ∃ k : Nat, vk = .int .u8 k ∧ k ≤ 16 ∧ wr = w ∧ Hid (∀ j, j < k → dig j ≠ c)) (fun vk _ => 16 - (intOf vk).toNat)
  case atStart => exact ⟨0, rfl, by omega, rfl, fun j hj => by omega⟩
  case round =>
    obtain ⟨k, rfl, hk, rfl, HJ⟩ := hrel
    by_cases hlt : k < 16
    · have hdg := digit_c k hlt wr
      have hdd : dig k < 128 := by unfold dig; split <;> omega
      have hd3 : decide ((k : Int) < 16) = true := decide_eq_true (by omega)
      by_cases he : dig k = c
      · have HE : Hid (r = k) := by
          show _ = _
          have := dig_hex ⟨k, hlt⟩
          rw [← HR.out, ← he]; unfold rhex; rw [if_pos this.1]; exact this.2
        have hb : (((dig k : Nat) : Int) == (c : Int)) = true := by rw [he]; simp
        clear he HJ HR
        go_wp2_with fail
        refine hdg.mono ?_
        rintro e w' ⟨rfl, rfl⟩
        go_wp2_with fail
        go_ret
        exact ⟨by rw [HE.out]; rfl, rfl⟩
      · have hb : (((dig k : Nat) : Int) == (c : Int)) = false := by rw [beq_eq_false_iff_ne]; omega
        have HJ2 : Hid (∀ j, j < k + 1 → dig j ≠ c) := fun j hj => by
          rcases Nat.lt_or_ge j k with g | g
          · exact HJ.out j g
          · obtain rfl : j = k := by omega
            exact he
        clear he HJ
        go_wp2_with fail
        refine hdg.mono ?_
        rintro e w' ⟨rfl, rfl⟩
        go_wp2_with fail
        go_roundw
        case rel => exact ⟨k + 1, by go_num, by omega, trivial, HJ2⟩
        case measure => simp [intOf]; omega
    · obtain rfl : k = 16 := by omega
      have HE : Hid (r = 16) := by
        show _ = _
        rw [← HR.out]; unfold rhex
        cases h : isHex c with
        | false => simp
        | true =>
          obtain ⟨h1, h2⟩ := hex_dig c h
          exact absurd h2 (HJ.out _ h1)
      clear HJ HR
      go_wp2_with fail
      go_ret
      exact ⟨by rw [HE.out]; rfl, rfl⟩
theorem rhex_big (c : Nat) : (rhex c > 15) = (isHex c = false) := by
  unfold rhex
  cases h : isHex c with
  | false => simp
  | true =>
    have := (hex_dig c h).1
    simp; omega
end Go.Proofs.Ytmhkalalcmkpbaa

namespace Go.Proofs.Ytmhkalalcmkpbaa
open Go.RowKit
set_option linter.unusedVariables false
set_option linter.unusedSimpArgs false

theorem allHex_at (s : ByteArray) (i : Nat) (h : i + 1 < s.size) : allHex (s.data.toList.drop i) = (isHex (s[i]'(by omega)).toNat && isHex (s[i + 1]'h).toNat && allHex (s.data.toList.drop (i + 2))) := by
  have hl : i + 1 < s.data.toList.length := by rw [size_data]; exact h
  rw [at_get s i (by omega), at_get s (i + 1) h, drop_one _ _ (by omega), drop_one _ (i + 1) hl]
  simp [allHex, Bool.and_assoc]

/-- append of one element, at a step of a region that draws its order. -/
theorem step_app1 {P : Program} {t e : TypeId} {z : Value} {bytes : Nat} (ht : P.underlying t = some (.slice e)) (hinfo : (P.info? e).map (fun i => (i.zero, i.size, i.bytes)) = some (some z, 1, bytes)) (hz1 : z.cells.size = 1) (hby : bytes ≤ 24)
    {W : World} {base : Nat} {v : Value} {n : Nat} {xs : List Value} (u : Value) (hu : u.oneCell' = true) (hown : W.ownsRow base e 1 v n xs) (hl : n < 1152921504606) (hb : base ≤ W.heap.size)
    {ops : Array Oper} {o : Oper} {a : Act} {K : Act → World → Prop} {Q : Exit → Act → World → Prop} {E : Prop} (hgd : o.guard = none) (s y : Operand)
    (ho : o.op = .call { callee := .builtin .append, args := #[s, y], argTypes := #[t, t] })
    (hs : a.eval s = v) (hy : a.eval y = .slice (some ⟨W.heap.size, 0, none⟩) 1 1)
    (h : ∀ v' w', w'.ownsRow base e 1 v' (n + 1) (xs ++ [u]) → Below base W w' → K (a.put o.dst v') w') :
    if Region.wanted o (yielded ops a.tmps) = true then Oper.wp P o a (W.alloc (.cells #[u] e)) K Q else E := by
  obtain ⟨i, hi, hz, hsz, hbb⟩ := info_parts hinfo
  refine step_append_any (P := P) _ hgd s y t ho base e i z 1 bytes ht hi hz hsz hbb hz1 (by decide) v n xs hs (hown.alloc _) (W.alloc (.cells #[u] e)).heap.size (some ⟨W.heap.size, 0, none⟩) 1 1 [u] hy (reads_new W 1 1 [u] e rfl) ?_ ?_ ?_ ?_ ?_
  · intro x hx; obtain rfl : x = u := by simpa using hx
    exact hu
  · simp only [maxLen]; omega
  · have : (n + 1) * bytes ≤ (n + 1) * 24 := Nat.mul_le_mul_left _ hby
    omega
  · simp; omega
  · intro v' w' h1 h2 _
    exact h v' w' h1 (below_app ((Below.refl base W).alloc hb _) (hown.alloc _) (Nat.le_refl _) (by simp; omega) h2)

set_option maxHeartbeats 2000000 in
set_option maxRecDepth 100000 in
theorem rhread_c (s : ByteArray) (hs : s.size < 1000000000) (w : World) : Calls Try.prog 201 #[.string s] w fun e w' => (∃ t, e = .returned (.tuple #[.string t, .int .i64 (hexE s)])) ∧ Below w.heap.size w w' := by
  generalize hr : hexE s = r
  have HR := Lib.hid hr
  clear hr
  by_cases hodd : s.size % 2 = 1
  · have HE : Hid (r = 5) := by show _ = _; rw [← HR.out]; unfold hexE; rw [if_pos hodd]
    have hd : (((s.size : Int) % 2) == 1) = true := by rw [beq_iff_eq]; omega
    clear HR
    go_enter Try.func201, Try.ntmps201
    go_wp2
    go_ret2
    exact ⟨⟨⟨#[]⟩, by rw [HE.out]; rfl⟩, Below.refl _ _⟩
  · have HE : Hid (r = if allHex s.data.toList = true then 0 else 5) := by show _ = _; rw [← HR.out]; unfold hexE; rw [if_neg hodd]
    have hd : (((s.size : Int) % 2) == 1) = false := by rw [beq_eq_false_iff_ne]; omega
    have HEV : Hid (s.size % 2 = 0) := by show _ = _; omega
    clear HR hodd
    go_enter Try.func201, Try.ntmps201
    go_wp2_with fail
    go_loopw [4, 5] (fun vb vi wr => ∃ (i : Nat) (xs : List Int), vi = .int .i64 i ∧ i ≤ s.size ∧ i % 2 = 0 ∧ xs.length * 2 = i ∧ Hid (wr.ownsRow w.heap.size 5 1 vb xs.length (xs.map (Value.int .u8))) ∧ Hid (Below w.heap.size w wr) ∧ Hid (allHex s.data.toList = allHex (s.data.toList.drop i))) (fun _ vi _ => s.size - (intOf vi).toNat)
    case atStart => exact ⟨0, [], rfl, by omega, rfl, rfl, World.ownsRow_nil _ _ _ _, Below.refl _ _, rfl⟩
    case round =>
      obtain ⟨i, xs, rfl, his, him, hxi, HO, HB, HA⟩ := hrel
      have hw1 : wrap64 ((i : Int) + 1) = (i : Int) + 1 := by unfold wrap64; omega
      by_cases hlt : i + 1 < s.size
      · have hd2 : decide ((i : Int) + 1 < (s.size : Int)) = true := decide_eq_true (by omega)
        have HA2 := Lib.hid (HA.out.trans (allHex_at s i hlt))
        have k0 := fun W => rhalf_c (s[i]'(by omega)).toNat (s[i]'(by omega)).toNat_lt W
        have k1 := fun W => rhalf_c (s[i + 1]'hlt).toNat (s[i + 1]'hlt).toNat_lt W
        have k0s := fun W => (k0 W).mono fun e w' (h : _ ∧ w' = W) => (⟨h.1, h.2.symm⟩ : _ ∧ W = w')
        have k1s := fun W => (k1 W).mono fun e w' (h : _ ∧ w' = W) => (⟨h.1, h.2.symm⟩ : _ ∧ W = w')
        have h0 : (0 : Int) ≤ (i : Int) ∧ (i : Int) < (s.size : Int) := by omega
        have h1 : (0 : Int) ≤ (i : Int) + 1 ∧ (i : Int) + 1 < (s.size : Int) := by omega
        have hi0 : i < s.size := by omega
        have ht1 : ((i : Int) + 1).toNat = i + 1 := by omega
        have HB0 := Lib.hid (rhex_big (s[i]'(by omega)).toNat)
        have HB1 := Lib.hid (rhex_big (s[i + 1]'hlt).toNat)
        have hr0 : rhex (s[i]'(by omega)).toNat < 17 := by unfold rhex; split; (have := (hex_dig _ (by assumption)).1; omega); omega
        have hr1 : rhex (s[i + 1]'hlt).toNat < 17 := by unfold rhex; split; (have := (hex_dig _ (by assumption)).1; omega); omega
        generalize rhex (s[i]'(by omega)).toNat = r0 at *
        generalize rhex (s[i + 1]'hlt).toNat = r1 at *
        generalize isHex (s[i]'(by omega)).toNat = b0 at *
        generalize isHex (s[i + 1]'hlt).toNat = b1 at *
        cases b0 with
        | false =>
          have HF : Hid (r = 5) := by show _ = _; rw [HE.out, HA2.out]; simp
          have hg : decide ((r0 : Int) > 15) = true := decide_eq_true (by have : r0 > 15 := HB0.out.mpr rfl; omega)
          clear HE HA HA2 HB0 HB1
          go_wp2_with fail
          refine (k0s _).mono ?_
          rintro e w3 ⟨rfl, rfl⟩
          go_wp2_with fail
          go_ret2
          exact ⟨⟨⟨#[]⟩, by rw [HF.out]; rfl⟩, HB.out⟩
        | true =>
          have hg : decide ((r0 : Int) > 15) = false := decide_eq_false (by have : ¬ r0 > 15 := fun h => by have := HB0.out.mp h; cases this
                                                                            omega)
          cases b1 with
          | false =>
            have HF : Hid (r = 5) := by show _ = _; rw [HE.out, HA2.out]; simp
            have hg1 : decide ((r1 : Int) > 15) = true := decide_eq_true (by have : r1 > 15 := HB1.out.mpr rfl; omega)
            clear HE HA HA2 HB0 HB1
            go_wp2_with fail
            refine (k0s _).mono ?_
            rintro e w3 ⟨rfl, rfl⟩
            go_wp2_with fail
            refine (k1s _).mono ?_
            rintro e w3 ⟨rfl, rfl⟩
            go_wp2_with fail
            go_ret2
            exact ⟨⟨⟨#[]⟩, by rw [HF.out]; rfl⟩, HB.out⟩
          | true =>
            have hg1 : decide ((r1 : Int) > 15) = false := decide_eq_false (by have : ¬ r1 > 15 := fun h => by have := HB1.out.mp h; cases this
                                                                               omega)
            have HA3 : Hid (allHex s.data.toList = allHex (s.data.toList.drop (i + 2))) := by show _ = _; rw [HA2.out]; simp
            clear HE HA HA2 HB0 HB1
            go_wp2_with fail
            refine (k0s _).mono ?_
            rintro e w3 ⟨rfl, rfl⟩
            go_wp2_with fail
            refine (k1s _).mono ?_
            rintro e w3 ⟨rfl, rfl⟩
            go_wp2_with fail
            have hew : IntKind.i64.wrap ((i : Int) + 1) = (i : Int) + 1 := by rw [IntKind.wrap_i64]; omega
            have HO2 : Hid (wr.drew.ownsRow w.heap.size 5 1 _ xs.length (xs.map (Value.int .u8))) := HO.out
            have HB2 : Hid (Below w.heap.size w wr.drew) := below_drewN HB.out 1
            refine wp_region_held_drew (S := (fun _ => True)) (by kernel_rfl) ?_ (fun hS => ?_)
            · trivial
            refine wpAnyH_take (i := 0) (v := ?_) rfl (by kernel_rfl) (by kernel_rfl) (by kernel_rfl) (fun _ _ _ h => h) (Or.inl ⟨by rfl, ?_⟩) hS ?_
            case refine_2 =>  (intro w hSw; (try dsimp only at hSw); go_split_ands; go_simp; try (with_reducible rfl))
            try simp only [Act.put, List.setIfInBounds_toArray, List.set_cons_zero, List.set_cons_succ]
            refine wpAnyH_take (i := 1) (v := ?_) rfl (by kernel_rfl) (by kernel_rfl) (by kernel_rfl) (fun _ _ _ h => h) (Or.inl ⟨by rfl, ?_⟩) hS ?_
            case refine_2 =>  (intro w hSw; (try dsimp only at hSw); go_split_ands; go_simp; try (with_reducible rfl))
            try simp only [Act.put, List.setIfInBounds_toArray, List.set_cons_zero, List.set_cons_succ]
            refine wpAnyH_take (i := 2) (v := ?_) rfl (by kernel_rfl) (by kernel_rfl) (by kernel_rfl) (fun _ _ _ h => h) (Or.inl ⟨by rfl, ?_⟩) hS ?_
            case refine_2 =>  (intro w hSw; (try dsimp only at hSw); go_split_ands; go_simp; try (with_reducible rfl))
            try simp only [Act.put, List.setIfInBounds_toArray, List.set_cons_zero, List.set_cons_succ]
            refine wpAnyH_take (i := 3) (v := .int .u8 ((s[i]'hi0).toNat : Nat)) rfl (by kernel_rfl) (by kernel_rfl) (by kernel_rfl) (fun _ _ _ h => h) (Or.inl ⟨by rfl, ?_⟩) hS ?_
            ·  (intro w hSw; (try dsimp only at hSw); go_split_ands; go_simp; try (with_reducible rfl))
            try simp only [Act.put, List.setIfInBounds_toArray, List.set_cons_zero, List.set_cons_succ]
            refine wpAnyH_take (i := 6) (v := ?_) rfl (by kernel_rfl) (by kernel_rfl) (by kernel_rfl) (fun _ _ _ h => h) (Or.inl ⟨by rfl, ?_⟩) hS ?_
            case refine_2 =>  (intro w hSw; (try dsimp only at hSw); go_split_ands; go_simp; try (with_reducible rfl))
            try simp only [Act.put, List.setIfInBounds_toArray, List.set_cons_zero, List.set_cons_succ]
            refine wpAnyH_take (i := 7) (v := ?_) rfl (by kernel_rfl) (by kernel_rfl) (by kernel_rfl) (fun _ _ _ h => h) (Or.inl ⟨by rfl, ?_⟩) hS ?_
            case refine_2 =>  (intro w hSw; (try dsimp only at hSw); go_split_ands; go_simp; try (with_reducible rfl))
            try simp only [Act.put, List.setIfInBounds_toArray, List.set_cons_zero, List.set_cons_succ]
            refine wpAnyH_take (i := 8) (v := ?_) rfl (by kernel_rfl) (by kernel_rfl) (by kernel_rfl) (fun _ _ _ h => h) (Or.inl ⟨by rfl, ?_⟩) hS ?_
            case refine_2 =>  (intro w hSw; (try dsimp only at hSw); go_split_ands; go_simp; try (with_reducible rfl))
            try simp only [Act.put, List.setIfInBounds_toArray, List.set_cons_zero, List.set_cons_succ]
            refine wpAnyH_take (i := 9) (v := .int .u8 ((s[i + 1]'hlt).toNat : Nat)) rfl (by kernel_rfl) (by kernel_rfl) (by kernel_rfl) (fun _ _ _ h => h) (Or.inl ⟨by rfl, ?_⟩) hS ?_
            ·  (intro w hSw; (try dsimp only at hSw); go_split_ands; go_simp; try (with_reducible rfl))
            try simp only [Act.put, List.setIfInBounds_toArray, List.set_cons_zero, List.set_cons_succ]
            refine wpAnyH_ready (rs := [4]) (by kernel_rfl) (by simp) ?_
            refine AllReadyH.cons rfl (fun K hK => ?_) ?_
            case refine_2 => exact AllReadyH.nil
            go_simp
            refine (k0s _).mono ?_; rintro e w' ⟨rfl, rfl⟩
            try go_wp2_with fail
            refine hK.out _ _ ?_ (fun hS2 => ?_)
            · trivial
            clear hK K hS
            have hS := hS2
            clear hS2
            try simp only [Act.put, List.setIfInBounds_toArray, List.set_cons_zero, List.set_cons_succ]
            refine wpAnyH_take (i := 5) (v := ?_) rfl (by kernel_rfl) (by kernel_rfl) (by kernel_rfl) (fun _ _ _ h => h) (Or.inl ⟨by rfl, ?_⟩) hS ?_
            case refine_2 =>  (intro w hSw; (try dsimp only at hSw); go_split_ands; go_simp; try (with_reducible rfl))
            try simp only [Act.put, List.setIfInBounds_toArray, List.set_cons_zero, List.set_cons_succ]
            refine wpAnyH_ready (rs := [10]) (by kernel_rfl) (by simp) ?_
            refine AllReadyH.cons rfl (fun K hK => ?_) ?_
            case refine_2 => exact AllReadyH.nil
            go_simp
            refine (k1s _).mono ?_; rintro e w' ⟨rfl, rfl⟩
            try go_wp2_with fail
            refine hK.out _ _ ?_ (fun hS2 => ?_)
            · trivial
            clear hK K hS
            have hS := hS2
            clear hS2
            try simp only [Act.put, List.setIfInBounds_toArray, List.set_cons_zero, List.set_cons_succ]
            refine wpAnyH_take (i := 11) (v := ?_) rfl (by kernel_rfl) (by kernel_rfl) (by kernel_rfl) (fun _ _ _ h => h) (Or.inl ⟨by rfl, ?_⟩) hS ?_
            case refine_2 =>  (intro w hSw; (try dsimp only at hSw); go_split_ands; go_simp; try (with_reducible rfl))
            try simp only [Act.put, List.setIfInBounds_toArray, List.set_cons_zero, List.set_cons_succ]
            refine wpAnyH_ready (rs := [12]) (by kernel_rfl) (by simp) ?_
            refine AllReadyH.cons rfl (fun K hK => ?_) ?_
            case refine_2 => exact AllReadyH.nil
            go_simp
            refine hK.out _ _ ?_ (fun hS2 => ?_)
            · trivial
            clear hK K hS
            have hS := hS2
            clear hS2
            try simp only [Act.put, List.setIfInBounds_toArray, List.set_cons_zero, List.set_cons_succ]
            refine wpAnyH_ready (rs := [13]) (by kernel_rfl) (by simp) ?_
            refine AllReadyH.cons rfl (fun K hK => ?_) ?_
            case refine_2 => exact AllReadyH.nil
            refine step_app1 slice8 info8 rfl (by decide) (.int .u8 _) rfl HO2.out (by omega) HB2.out.size rfl _ _ rfl rfl rfl ?_; intro v5 w5 ho5 hb5
            refine hK.out _ _ ?_ (fun hS2 => ?_)
            · trivial
            clear hK K hS
            have hS := hS2
            clear hS2
            try simp only [Act.put, List.setIfInBounds_toArray, List.set_cons_zero, List.set_cons_succ]
            refine wpAnyH_take (i := 14) (v := ?_) rfl (by kernel_rfl) (by kernel_rfl) (by kernel_rfl) (fun _ _ _ h => h) (Or.inl ⟨by rfl, ?_⟩) hS ?_
            case refine_2 =>  (intro w hSw; (try dsimp only at hSw); go_split_ands; go_simp; try (with_reducible rfl))
            try simp only [Act.put, List.setIfInBounds_toArray, List.set_cons_zero, List.set_cons_succ]
            refine wpAnyH_done (by kernel_rfl) ?_ _
            go_wp2
            obtain ⟨z, HO5⟩ : ∃ z : Int, Hid (w5.ownsRow w.heap.size 5 1 v5 (xs ++ [z]).length ((xs ++ [z]).map (Value.int .u8))) := ⟨_, by show World.ownsRow _ _ _ _ _ _ _; rw [List.map_append, List.length_append]; exact ho5⟩
            have HB5 : Hid (Below w.heap.size w w5) := HB2.out.trans hb5
            clear ho5 hb5
            go_roundw
            case rel => exact ⟨i + 2, xs ++ [z], by go_num, by omega, by omega, by rw [List.length_append, List.length_singleton]; omega, HO5, HB5, HA3⟩
            case measure => simp [intOf]; omega
      · have hd2 : decide ((i : Int) + 1 < (s.size : Int)) = false := decide_eq_false (by omega)
        have HT : Hid (r = 0) := by
          show _ = _
          have h2 := HEV.out
          rw [HE.out, HA.out, List.drop_of_length_le (by rw [size_data]; omega)]; rfl
        obtain ⟨u, hcv⟩ := conv_any wr w.heap.size _ xs.length xs rfl HO.out
        clear HE HA
        go_wp2_with fail
        go_ret2
        exact ⟨⟨u, by rw [HT.out]; rfl⟩, HB.out⟩
set_option maxRecDepth 100000 in
theorem rhcheck_c (s : ByteArray) (hs : s.size < 1000000000) (w : World) : Calls Try.prog 192 #[.string s] w fun e w' => e = .returned (.int .i64 (idE s)) ∧ Below w.heap.size w w' := by
  have hc := rhread_c s hs w
  have hid : idE s = if hexE s = 0 ∧ s.size = 64 then 0 else 5 := rfl
  generalize idE s = r at *
  generalize hexE s = e at *
  have HR := Lib.hid hid
  clear hid
  by_cases he : e = 0
  · subst he
    by_cases hz : s.size = 64
    · have HE : Hid (r = 0) := by show _ = _; rw [HR.out, if_pos ⟨rfl, hz⟩]
      have hb : ((s.size : Int) != 64) = false := by rw [bne_eq_false_iff_eq]; omega
      clear HR hz
      go_enter Try.func192, Try.ntmps192
      go_wp2_with (go_at_call 201; refine hc.mono ?_; rintro e w' ⟨⟨t, rfl⟩, hb⟩)
      go_ret
      exact ⟨ret_int HE.out.symm, by assumption⟩
    · have HE : Hid (r = 5) := by show _ = _; rw [HR.out, if_neg (fun h => hz h.2)]
      have hb : ((s.size : Int) != 64) = true := by rw [bne_iff_ne]; omega
      clear HR hz
      go_enter Try.func192, Try.ntmps192
      go_wp2_with (go_at_call 201; refine hc.mono ?_; rintro e w' ⟨⟨t, rfl⟩, hb⟩)
      go_ret
      exact ⟨ret_int HE.out.symm, by assumption⟩
  · have HE : Hid (r = 5) := by show _ = _; rw [HR.out, if_neg (fun h => he h.1)]
    have hb : (e != 0) = true := by simpa using he
    clear HR
    go_enter Try.func192, Try.ntmps192
    go_wp2_with (go_at_call 201; refine hc.mono ?_; rintro e w' ⟨⟨t, rfl⟩, hb⟩)
    go_ret
    exact ⟨ret_int HE.out.symm, by assumption⟩
end Go.Proofs.Ytmhkalalcmkpbaa

namespace Go.Proofs.Ytmhkalalcmkpbaa
open Go.RowKit
set_option linter.unusedVariables false
set_option linter.unusedSimpArgs false

theorem RdS.get {w : World} {B : Nat} {A : Option Addr} {n k : Nat} {l : List ByteArray} (h : RdS w B A n l) (hk : k < n) : ∃ b off, A = some ⟨b, off, none⟩ ∧ b < B ∧ w.cell? ⟨b, off + k, none⟩ = some (.string (l.getD k ⟨#[]⟩)) := by
  have hl := RdS.len h
  obtain ⟨ad, e, hb, hc⟩ := h.2 (by omega)
  have c1 := hc k (.string (l.getD k ⟨#[]⟩)) (by simp [List.getD, show k < l.length by omega])
  obtain ⟨b, off, spot⟩ := ad
  have c0 := hc 0 (.string (l.getD 0 ⟨#[]⟩)) (by simp [List.getD, show 0 < l.length by omega])
  have hs : spot = none := by simpa [Addr.add] using World.cell?_spot c0
  subst hs
  rw [add_flat] at c1
  exact ⟨b, off, e, hb, c1⟩
def manyN (n z : Nat) : Nat := (n + z - 1) / z
theorem manyN_ref (n z : Nat) (hz : 0 < z) : manyN n z = if 0 < n % z then n / z + 1 else n / z := by
  have hd := Nat.div_add_mod n z
  have hm := Nat.mod_lt n hz
  have hc : n / z * z = z * (n / z) := Nat.mul_comm _ _
  unfold manyN
  split
  · exact Nat.div_eq_of_lt_le (by rw [Nat.succ_mul]; omega) (by rw [Nat.succ_mul, Nat.succ_mul]; omega)
  · exact Nat.div_eq_of_lt_le (by omega) (by rw [Nat.succ_mul]; omega)
set_option maxRecDepth 100000 in
theorem many_c (n z : Nat) (hn : n ≤ 32768) (hz : 0 < z) (hz2 : z ≤ 4096) (w : World) : Calls Try.prog 195 #[.int .i64 n, .int .i64 z] w fun e w' => e = .returned (.int .i64 (manyN n z : Nat)) ∧ w' = w := by
  have e1 : ((n : Int) + (z : Int) - 1) / (z : Int) = ((manyN n z : Nat) : Int) := by
    unfold manyN
    rw [Int.natCast_ediv]; congr 1; omega
  have h0 : (0 : Int) < (z : Int) ∧ (z : Int) ≤ 4096 ∧ (0 : Int) ≤ (n : Int) ∧ (n : Int) ≤ 32768 := by omega
  have hne : ¬ (z : Int) = 0 := by omega
  have hm : manyN n z ≤ 40000 := by
    unfold manyN
    exact Nat.le_trans (Nat.div_le_self _ _) (by omega)
  generalize manyN n z = q at *
  have HE := Lib.hid e1
  clear e1
  go_enter Try.func195, Try.ntmps195
  go_wp2
  go_ret
  exact ⟨ret_int HE.out, rfl⟩
set_option maxRecDepth 100000 in
theorem rmany_c (n z : Nat) (hn : n ≤ 32768) (hz : 0 < z) (hz2 : z ≤ 4096) (w : World) : Calls Try.prog 191 #[.int .i64 n, .int .i64 z] w fun e w' => e = .returned (.int .i64 (manyN n z : Nat)) ∧ w' = w := by
  have hr := manyN_ref n z hz
  have h0 : (0 : Int) < (z : Int) ∧ (z : Int) ≤ 4096 ∧ (0 : Int) ≤ (n : Int) ∧ (n : Int) ≤ 32768 := by omega
  have hne : ¬ (z : Int) = 0 := by omega
  have e1 : (n : Int) / (z : Int) = ((n / z : Nat) : Int) := (Int.natCast_ediv _ _).symm
  have e2 : (n : Int) % (z : Int) = ((n % z : Nat) : Int) := (Int.natCast_emod _ _).symm
  have hq : n / z ≤ 32768 := Nat.le_trans (Nat.div_le_self _ _) hn
  generalize manyN n z = q at *
  generalize n % z = rr at *
  generalize n / z = dd at *
  by_cases hp : 0 < rr
  · rw [if_pos hp] at hr
    have hd : decide ((n : Int) % (z : Int) > 0) = true := decide_eq_true (by rw [e2]; omega)
    have hb : (0 : Int) ≤ (n : Int) / (z : Int) ∧ (n : Int) / (z : Int) ≤ 32768 := by rw [e1]; omega
    have HE : Hid ((n : Int) / (z : Int) + 1 = (q : Int)) := by show _ = _; rw [e1, hr]; rfl
    clear e1 e2 hr hp
    go_enter Try.func191, Try.ntmps191
    go_wp2
    go_ret
    exact ⟨ret_int HE.out, rfl⟩
  · rw [if_neg hp] at hr
    have hd : decide ((n : Int) % (z : Int) > 0) = false := decide_eq_false (by rw [e2]; omega)
    have hb : (0 : Int) ≤ (n : Int) / (z : Int) ∧ (n : Int) / (z : Int) ≤ 32768 := by rw [e1]; omega
    have HE : Hid ((n : Int) / (z : Int) = (q : Int)) := by show _ = _; rw [e1, hr]
    clear e1 e2 hr hp
    go_enter Try.func191, Try.ntmps191
    go_wp2
    go_ret
    exact ⟨ret_int HE.out, rfl⟩

/-- Why a manifest may not be. -/
def chkM (sz ch : Int) (ids : List ByteArray) : Int :=
  if ch < 1 ∨ 4096 < ch ∨ sz < 0 ∨ 32768 < sz then 2 else if ids.length ≠ manyN sz.toNat ch.toNat then 5 else
  if ids.all (fun s => decide (idE s = 0)) = false then 5 else if 4096 < ids.length then 3 else 0
abbrev manv (sz ch : Int) (A : Option Addr) (m c : Nat) : Value := .agg #[.int .i64 sz, .int .i64 ch, .slice A m c]
theorem idE_vals (s : ByteArray) : idE s = 0 ∨ idE s = 5 := by unfold idE; split; exact .inl rfl; exact .inr rfl
theorem all_take (l : List ByteArray) (p : ByteArray → Bool) (k : Nat) (h : k < l.length) : (l.take (k + 1)).all p = ((l.take k).all p && p (l.getD k ⟨#[]⟩)) := by
  rw [List.take_succ_eq_append_getElem h, List.all_append]; simp [List.getD, h]
theorem all_stop (l : List ByteArray) (p : ByteArray → Bool) (k : Nat) (h : k < l.length) (hf : p (l.getD k ⟨#[]⟩) = false) : l.all p = false := by
  rw [List.all_eq_false]
  refine ⟨l.getD k ⟨#[]⟩, ?_, by simpa using hf⟩
  simp [List.getD, h]

set_option maxHeartbeats 4000000 in
set_option maxRecDepth 100000 in
theorem mchk_c (sz ch : Int) (A : Option Addr) (m c B : Nat) (ids : List ByteArray) (w : World) (h1 : RdS w B A m ids) (hB : B ≤ w.heap.size) (hm : m < 1000000) (hz : ∀ s ∈ ids, s.size < 1000000000) :
    Calls Try.prog 177 #[manv sz ch A m c] w fun e w' => e = .returned (.int .i64 (chkM sz ch ids)) ∧ Below w.heap.size w w' := by
  have HX := Lib.hid (RdS.len h1)
  have HR := Lib.hid (Reads.more h1 hB)
  have HZ := Lib.hid hz
  clear h1 hB hz
  simp only [manv]
  by_cases h2 : ch < 1
  · have hc : chkM sz ch ids = 2 := if_pos (by omega)
    rw [hc]; clear hc
    have d0 : decide (ch < 1) = true := decide_eq_true (by omega)
    go_enter Try.func177, Try.ntmps177
    go_wp2
    go_ret
    exact ⟨rfl, (Below.refl _ _).alloc (Nat.le_refl _) _⟩
  · have d0 : decide (ch < 1) = false := decide_eq_false (by omega)
    by_cases h3 : 4096 < ch
    · have hc : chkM sz ch ids = 2 := if_pos (by omega)
      rw [hc]; clear hc
      have d1 : decide (ch > 4096) = true := decide_eq_true (by omega)
      go_enter Try.func177, Try.ntmps177
      go_wp2
      go_ret
      exact ⟨rfl, (Below.refl _ _).alloc (Nat.le_refl _) _⟩
    · have d1 : decide (ch > 4096) = false := decide_eq_false (by omega)
      by_cases h4 : sz < 0
      · have hc : chkM sz ch ids = 2 := if_pos (by omega)
        rw [hc]; clear hc
        have d2 : decide (sz < 0) = true := decide_eq_true (by omega)
        go_enter Try.func177, Try.ntmps177
        go_wp2
        go_ret
        exact ⟨rfl, (Below.refl _ _).alloc (Nat.le_refl _) _⟩
      · have d2 : decide (sz < 0) = false := decide_eq_false (by omega)
        by_cases h5 : 32768 < sz
        · have hc : chkM sz ch ids = 2 := if_pos (by omega)
          rw [hc]; clear hc
          have d3 : decide (sz > 32768) = true := decide_eq_true (by omega)
          go_enter Try.func177, Try.ntmps177
          go_wp2
          go_ret
          exact ⟨rfl, (Below.refl _ _).alloc (Nat.le_refl _) _⟩
        · have d3 : decide (sz > 32768) = false := decide_eq_false (by omega)
          obtain ⟨n, rfl⟩ := Int.eq_ofNat_of_zero_le (show 0 ≤ sz by omega)
          obtain ⟨z, rfl⟩ := Int.eq_ofNat_of_zero_le (show 0 ≤ ch by omega)
          have hmy := fun W => many_c n z (by omega) (by omega) (by omega) W
          generalize hr : chkM n z ids = r
          have HC : Hid (r = if m ≠ manyN n z then 5 else if ids.all (fun s => decide (idE s = 0)) = false then 5 else if 4096 < m then 3 else 0) := by
            show _ = _
            rw [← hr]; unfold chkM
            rw [if_neg (by omega), Int.toNat_natCast, Int.toNat_natCast, HX.out]
          clear hr
          have hmq : manyN n z ≤ 40000 := by
            unfold manyN
            exact Nat.le_trans (Nat.div_le_self _ _) (by omega)
          generalize manyN n z = q at *
          have g0 : (w.alloc (.cells #[.int .i64 (n : Int), .int .i64 (z : Int), .slice A m c] 201)).cell? ⟨w.heap.size, 0, none⟩ = some (.int .i64 (n : Int)) := by simp
          have g1 : (w.alloc (.cells #[.int .i64 (n : Int), .int .i64 (z : Int), .slice A m c] 201)).cell? ⟨w.heap.size, 1, none⟩ = some (.int .i64 (z : Int)) := by simp
          have g2 : (w.alloc (.cells #[.int .i64 (n : Int), .int .i64 (z : Int), .slice A m c] 201)).cell? ⟨w.heap.size, 2, none⟩ = some (.slice A m c) := by simp
          have HBA : Hid (Below w.heap.size w (w.alloc (.cells #[.int .i64 (n : Int), .int .i64 (z : Int), .slice A m c] 201))) := (Below.refl _ _).alloc (Nat.le_refl _) _
          have HWS : Hid (w.heap.size < (w.alloc (.cells #[.int .i64 (n : Int), .int .i64 (z : Int), .slice A m c] 201)).heap.size) := by show _ < _; simp
          go_enter Try.func177, Try.ntmps177
          go_wp2_with fail
          generalize w.alloc (.cells #[.int .i64 (n : Int), .int .i64 (z : Int), .slice A m c] 201) = w1 at *
          by_cases hmq2 : m = q
          · subst hmq2
            have hb : ((m : Int) != (m : Int)) = false := by simp
            have HC2 : Hid (r = if ids.all (fun s => decide (idE s = 0)) = false then 5 else if 4096 < m then 3 else 0) := by show _ = _; rw [HC.out, if_neg (by simp)]
            clear HC
            go_quiet ((go_at_call 195; exact Calls.quiet_of_same (hmy _)))
            have HG2 : Hid (∀ X, Below w1.heap.size w1 X → X.cell? ⟨w.heap.size, 2, none⟩ = some (.slice A m c)) := fun X hX => keepc hX g2
            have HDR : Hid (∀ q, Below w1.heap.size w1 (w1.drewN q)) := fun q => below_drewN (Below.refl _ _) q
            clear g0 g1 hmy
            go_wp2_with fail
            go_loopw [4, 37] (fun _ vi wr => ∃ (k : Nat), vi = .int .i64 k ∧ k ≤ m ∧ Hid (Below w1.heap.size w1 wr) ∧ Hid ((ids.take k).all (fun s => decide (idE s = 0)) = true)) (fun _ vi _ => m - (intOf vi).toNat)
            case atStart => exact ⟨0, rfl, by omega, (by first | exact HDR.out _ | exact Below.refl _ _ | (rw [World.drewN_drewN]; exact HDR.out _)), rfl⟩
            case round =>
              clear HDR g2
              obtain ⟨k, rfl, hk, HB, HA⟩ := hrel
              have g3 := HG2.out wr HB.out
              by_cases hlt : k < m
              · obtain ⟨b1, o1, rfl, hb1, hcell⟩ := RdS.get (Reads.below HR.out (HBA.out.trans (HB.out.mono HBA.out.size))) hlt
                have HT := Lib.hid (all_take ids (fun s => decide (idE s = 0)) k (by rw [HX.out]; exact hlt))
                have HF := Lib.hid (all_stop ids (fun s => decide (idE s = 0)) k (by rw [HX.out]; exact hlt))
                have hzk : (ids.getD k ⟨#[]⟩).size < 1000000000 := HZ.out _ (by have := HX.out; simp [List.getD, show k < ids.length by omega])
                have hck := fun W => hcheck_c (ids.getD k ⟨#[]⟩) hzk W
                have hiv := idE_vals (ids.getD k ⟨#[]⟩)
                generalize ids.getD k ⟨#[]⟩ = id0 at *
                have HID := Lib.hid hiv
                clear hiv hzk
                generalize hE : idE id0 = e0 at *
                have HE0 := Lib.hid hE
                clear hE
                by_cases he0 : e0 = 0
                · subst he0
                  have HA2 : Hid ((ids.take (k + 1)).all (fun s => decide (idE s = 0)) = true) := by show _ = _; rw [HT.out, HA.out]; rfl
                  clear HT HF HA HID
                  go_wp2_with fail
                  refine (hck _).mono ?_
                  rintro e w5 ⟨rfl, hb5⟩
                  have HB5 : Hid (Below w1.heap.size w1 w5) := HB.out.trans (hb5.mono HB.out.size)
                  clear hb5 hck hcell
                  go_wp2_with fail
                  go_roundw
                  case rel => exact ⟨k + 1, by go_num, by omega, HB5, HA2⟩
                  case measure => simp [intOf]; omega
                · have heb : (e0 != 0) = true := by simpa using he0
                  have HR5 : Hid (r = 5) := by
                    show _ = _
                    rw [HC2.out, HF.out (decide_eq_false he0), if_pos rfl]
                  clear HT HF HA HID HC2
                  go_wp2_with fail
                  refine (hck _).mono ?_
                  rintro e w5 ⟨rfl, hb5⟩
                  go_wp2_with fail
                  go_ret
                  exact ⟨ret_int HR5.out.symm, HBA.out.trans ((HB.out.trans (hb5.mono HB.out.size)).mono HBA.out.size)⟩
              · have HAll : Hid (ids.all (fun s => decide (idE s = 0)) = true) := by
                  show _ = _
                  have := HA.out
                  rwa [show k = m by omega, List.take_of_length_le (by rw [HX.out]; exact Nat.le_refl _)] at this
                by_cases hbig : 4096 < m
                · have hd9 : decide ((m : Int) > 4096) = true := decide_eq_true (by omega)
                  have HR5 : Hid (r = 3) := by show _ = _; rw [HC2.out, HAll.out, if_neg (by simp), if_pos hbig]
                  clear HA HC2 HAll
                  go_wp2_with fail
                  go_ret
                  exact ⟨ret_int HR5.out.symm, HBA.out.trans (HB.out.mono HBA.out.size)⟩
                · have hd9 : decide ((m : Int) > 4096) = false := decide_eq_false (by omega)
                  have HR5 : Hid (r = 0) := by show _ = _; rw [HC2.out, HAll.out, if_neg (by simp), if_neg hbig]
                  clear HA HC2 HAll
                  go_wp2_with fail
                  go_ret
                  exact ⟨ret_int HR5.out.symm, HBA.out.trans (HB.out.mono HBA.out.size)⟩
          · have hb : ((m : Int) != (q : Int)) = true := by rw [bne_iff_ne]; omega
            have HR5 : Hid (r = 5) := by show _ = _; rw [HC.out, if_pos hmq2]
            have HDR : Hid (∀ q, Below w.heap.size w (w1.drewN q)) := fun q => below_drewN HBA.out q
            clear HC
            go_quiet ((go_at_call 195; exact Calls.quiet_of_same (hmy _)))
            clear g0 g1 g2
            go_wp2_with fail
            go_ret
            exact ⟨ret_int HR5.out.symm, (by first | exact HDR.out _ | (rw [World.drewN_drewN]; exact HDR.out _))⟩

set_option maxHeartbeats 4000000 in
set_option maxRecDepth 100000 in
theorem rmchk_c (sz ch : Int) (A : Option Addr) (m c B : Nat) (ids : List ByteArray) (w : World) (h1 : RdS w B A m ids) (hB : B ≤ w.heap.size) (hm : m < 1000000) (hz : ∀ s ∈ ids, s.size < 1000000000) :
    Calls Try.prog 175 #[manv sz ch A m c] w fun e w' => e = .returned (.int .i64 (chkM sz ch ids)) ∧ Below w.heap.size w w' := by
  have HX := Lib.hid (RdS.len h1)
  have HR := Lib.hid (Reads.more h1 hB)
  have HZ := Lib.hid hz
  clear h1 hB hz
  simp only [manv]
  by_cases h2 : ch < 1
  · have hc : chkM sz ch ids = 2 := if_pos (by omega)
    rw [hc]; clear hc
    have d0 : decide (ch < 1) = true := decide_eq_true (by omega)
    go_enter Try.func175, Try.ntmps175
    go_wp2
    go_ret
    exact ⟨rfl, (Below.refl _ _).alloc (Nat.le_refl _) _⟩
  · have d0 : decide (ch < 1) = false := decide_eq_false (by omega)
    by_cases h3 : 4096 < ch
    · have hc : chkM sz ch ids = 2 := if_pos (by omega)
      rw [hc]; clear hc
      have d1 : decide (ch > 4096) = true := decide_eq_true (by omega)
      go_enter Try.func175, Try.ntmps175
      go_wp2
      go_ret
      exact ⟨rfl, (Below.refl _ _).alloc (Nat.le_refl _) _⟩
    · have d1 : decide (ch > 4096) = false := decide_eq_false (by omega)
      by_cases h4 : sz < 0
      · have hc : chkM sz ch ids = 2 := if_pos (by omega)
        rw [hc]; clear hc
        have d2 : decide (sz < 0) = true := decide_eq_true (by omega)
        go_enter Try.func175, Try.ntmps175
        go_wp2
        go_ret
        exact ⟨rfl, (Below.refl _ _).alloc (Nat.le_refl _) _⟩
      · have d2 : decide (sz < 0) = false := decide_eq_false (by omega)
        by_cases h5 : 32768 < sz
        · have hc : chkM sz ch ids = 2 := if_pos (by omega)
          rw [hc]; clear hc
          have d3 : decide (sz > 32768) = true := decide_eq_true (by omega)
          go_enter Try.func175, Try.ntmps175
          go_wp2
          go_ret
          exact ⟨rfl, (Below.refl _ _).alloc (Nat.le_refl _) _⟩
        · have d3 : decide (sz > 32768) = false := decide_eq_false (by omega)
          obtain ⟨n, rfl⟩ := Int.eq_ofNat_of_zero_le (show 0 ≤ sz by omega)
          obtain ⟨z, rfl⟩ := Int.eq_ofNat_of_zero_le (show 0 ≤ ch by omega)
          have hmy := fun W => rmany_c n z (by omega) (by omega) (by omega) W
          generalize hr : chkM n z ids = r
          have HC : Hid (r = if m ≠ manyN n z then 5 else if ids.all (fun s => decide (idE s = 0)) = false then 5 else if 4096 < m then 3 else 0) := by
            show _ = _
            rw [← hr]; unfold chkM
            rw [if_neg (by omega), Int.toNat_natCast, Int.toNat_natCast, HX.out]
          clear hr
          have hmq : manyN n z ≤ 40000 := by
            unfold manyN
            exact Nat.le_trans (Nat.div_le_self _ _) (by omega)
          generalize manyN n z = q at *
          have g0 : (w.alloc (.cells #[.int .i64 (n : Int), .int .i64 (z : Int), .slice A m c] 201)).cell? ⟨w.heap.size, 0, none⟩ = some (.int .i64 (n : Int)) := by simp
          have g1 : (w.alloc (.cells #[.int .i64 (n : Int), .int .i64 (z : Int), .slice A m c] 201)).cell? ⟨w.heap.size, 1, none⟩ = some (.int .i64 (z : Int)) := by simp
          have g2 : (w.alloc (.cells #[.int .i64 (n : Int), .int .i64 (z : Int), .slice A m c] 201)).cell? ⟨w.heap.size, 2, none⟩ = some (.slice A m c) := by simp
          have HBA : Hid (Below w.heap.size w (w.alloc (.cells #[.int .i64 (n : Int), .int .i64 (z : Int), .slice A m c] 201))) := (Below.refl _ _).alloc (Nat.le_refl _) _
          have HWS : Hid (w.heap.size < (w.alloc (.cells #[.int .i64 (n : Int), .int .i64 (z : Int), .slice A m c] 201)).heap.size) := by show _ < _; simp
          go_enter Try.func175, Try.ntmps175
          go_wp2_with fail
          generalize w.alloc (.cells #[.int .i64 (n : Int), .int .i64 (z : Int), .slice A m c] 201) = w1 at *
          by_cases hmq2 : m = q
          · subst hmq2
            have hb : ((m : Int) != (m : Int)) = false := by simp
            have HC2 : Hid (r = if ids.all (fun s => decide (idE s = 0)) = false then 5 else if 4096 < m then 3 else 0) := by show _ = _; rw [HC.out, if_neg (by simp)]
            clear HC
            go_quiet ((go_at_call 191; exact Calls.quiet_of_same (hmy _)))
            have HG2 : Hid (∀ X, Below w1.heap.size w1 X → X.cell? ⟨w.heap.size, 2, none⟩ = some (.slice A m c)) := fun X hX => keepc hX g2
            have HDR : Hid (∀ q, Below w1.heap.size w1 (w1.drewN q)) := fun q => below_drewN (Below.refl _ _) q
            clear g0 g1 hmy
            go_wp2_with fail
            go_loopw [3] (fun vi wr => ∃ (k : Nat), vi = .int .i64 k ∧ k ≤ m ∧ Hid (Below w1.heap.size w1 wr) ∧ Hid ((ids.take k).all (fun s => decide (idE s = 0)) = true)) (fun vi _ => m - (intOf vi).toNat)
            case atStart => exact ⟨0, rfl, by omega, (by first | exact HDR.out _ | exact Below.refl _ _ | (rw [World.drewN_drewN]; exact HDR.out _)), rfl⟩
            case round =>
              clear HDR g2
              obtain ⟨k, rfl, hk, HB, HA⟩ := hrel
              have g3 := HG2.out wr HB.out
              by_cases hlt : k < m
              · obtain ⟨b1, o1, rfl, hb1, hcell⟩ := RdS.get (Reads.below HR.out (HBA.out.trans (HB.out.mono HBA.out.size))) hlt
                have HT := Lib.hid (all_take ids (fun s => decide (idE s = 0)) k (by rw [HX.out]; exact hlt))
                have HF := Lib.hid (all_stop ids (fun s => decide (idE s = 0)) k (by rw [HX.out]; exact hlt))
                have hzk : (ids.getD k ⟨#[]⟩).size < 1000000000 := HZ.out _ (by have := HX.out; simp [List.getD, show k < ids.length by omega])
                have hck := fun W => rhcheck_c (ids.getD k ⟨#[]⟩) hzk W
                have hiv := idE_vals (ids.getD k ⟨#[]⟩)
                generalize ids.getD k ⟨#[]⟩ = id0 at *
                have HID := Lib.hid hiv
                clear hiv hzk
                generalize hE : idE id0 = e0 at *
                have HE0 := Lib.hid hE
                clear hE
                by_cases he0 : e0 = 0
                · subst he0
                  have HA2 : Hid ((ids.take (k + 1)).all (fun s => decide (idE s = 0)) = true) := by show _ = _; rw [HT.out, HA.out]; rfl
                  clear HT HF HA HID
                  go_wp2_with fail
                  refine (hck _).mono ?_
                  rintro e w5 ⟨rfl, hb5⟩
                  have HB5 : Hid (Below w1.heap.size w1 w5) := HB.out.trans (hb5.mono HB.out.size)
                  clear hb5 hck hcell
                  go_wp2_with fail
                  go_roundw
                  case rel => exact ⟨k + 1, by go_num, by omega, HB5, HA2⟩
                  case measure => simp [intOf]; omega
                · have heb : (e0 != 0) = true := by simpa using he0
                  have HR5 : Hid (r = 5) := by
                    show _ = _
                    rw [HC2.out, HF.out (decide_eq_false he0), if_pos rfl]
                  clear HT HF HA HID HC2
                  go_wp2_with fail
                  refine (hck _).mono ?_
                  rintro e w5 ⟨rfl, hb5⟩
                  go_wp2_with fail
                  go_ret
                  exact ⟨ret_int HR5.out.symm, HBA.out.trans ((HB.out.trans (hb5.mono HB.out.size)).mono HBA.out.size)⟩
              · have HAll : Hid (ids.all (fun s => decide (idE s = 0)) = true) := by
                  show _ = _
                  have := HA.out
                  rwa [show k = m by omega, List.take_of_length_le (by rw [HX.out]; exact Nat.le_refl _)] at this
                by_cases hbig : 4096 < m
                · have hd9 : decide ((m : Int) > 4096) = true := decide_eq_true (by omega)
                  have HR5 : Hid (r = 3) := by show _ = _; rw [HC2.out, HAll.out, if_neg (by simp), if_pos hbig]
                  clear HA HC2 HAll
                  go_wp2_with fail
                  go_ret
                  exact ⟨ret_int HR5.out.symm, HBA.out.trans (HB.out.mono HBA.out.size)⟩
                · have hd9 : decide ((m : Int) > 4096) = false := decide_eq_false (by omega)
                  have HR5 : Hid (r = 0) := by show _ = _; rw [HC2.out, HAll.out, if_neg (by simp), if_neg hbig]
                  clear HA HC2 HAll
                  go_wp2_with fail
                  go_ret
                  exact ⟨ret_int HR5.out.symm, HBA.out.trans (HB.out.mono HBA.out.size)⟩
          · have hb : ((m : Int) != (q : Int)) = true := by rw [bne_iff_ne]; omega
            have HR5 : Hid (r = 5) := by show _ = _; rw [HC.out, if_pos hmq2]
            have HDR : Hid (∀ q, Below w.heap.size w (w1.drewN q)) := fun q => below_drewN HBA.out q
            clear HC
            go_quiet ((go_at_call 191; exact Calls.quiet_of_same (hmy _)))
            clear g0 g1 g2
            go_wp2_with fail
            go_ret
            exact ⟨ret_int HR5.out.symm, (by first | exact HDR.out _ | (rw [World.drewN_drewN]; exact HDR.out _))⟩
end Go.Proofs.Ytmhkalalcmkpbaa

namespace Go.Proofs.Ytmhkalalcmkpbaa
open Go.RowKit
set_option linter.unusedVariables false
set_option linter.unusedSimpArgs false

/-- The manifest of bytes, or the error. -/
def readM (s : ByteArray) : (Int × Int × List ByteArray) × Int :=
  if doneE (rdLs (rdN (rdN (s, 0)).2).2).2 ≠ 0 then ((0, 0, []), doneE (rdLs (rdN (rdN (s, 0)).2).2).2) else
  if chkM (rdN (s, 0)).1 (rdN (rdN (s, 0)).2).1 (rdLs (rdN (rdN (s, 0)).2).2).1 ≠ 0 then ((0, 0, []), chkM (rdN (s, 0)).1 (rdN (rdN (s, 0)).2).1 (rdLs (rdN (rdN (s, 0)).2).2).1) else
  ((((rdN (s, 0)).1 : Int), ((rdN (rdN (s, 0)).2).1 : Int), (rdLs (rdN (rdN (s, 0)).2).2).1), 0)
theorem rdT_tsize (st : ByteArray × Int) : (rdT st).1.size ≤ st.1.size := by
  unfold rdT
  split
  · exact Nat.zero_le _
  · split
    · exact Nat.zero_le _
    · unfold textR
      split
      · exact Nat.zero_le _
      · split
        · exact Nat.zero_le _
        · split
          · exact Nat.zero_le _
          · show (st.1.extract _ _).size ≤ _
            rw [ByteArray.size_extract]; omega
theorem rdTs_each : ∀ (n : Nat) (st : ByteArray × Int), ∀ t ∈ (rdTs n st).1, t.size ≤ st.1.size := by
  intro n
  induction n with
  | zero => intro st t ht; simp [rdTs] at ht
  | succ n ih =>
    intro st t ht
    by_cases h : st.2 = 0
    · rw [rdTs_step _ _ h] at ht
      rcases List.mem_cons.1 ht with rfl | ht
      · exact rdT_tsize st
      · exact Nat.le_trans (ih _ t ht) (rdT_size st)
    · rw [rdTs_stop _ _ h] at ht; simp at ht
theorem rdLs_each (st : ByteArray × Int) : ∀ t ∈ (rdLs st).1, t.size ≤ st.1.size := by
  intro t ht
  unfold rdLs at ht
  split at ht
  · simp at ht
  · split at ht
    · simp at ht
    · split at ht
      · simp at ht
      · split at ht
        · simp at ht
        · exact Nat.le_trans (rdTs_each _ _ t ht) (rdN_size st)
/-- A manifest came back, its ids in the call's own slice. -/
def RetM (w0 : Nat) (w' : World) (e : Ending) (r : (Int × Int × List ByteArray) × Int) : Prop := ∃ A c, e = .returned (.tuple #[.agg #[.int .i64 r.1.1, .int .i64 r.1.2.1, .slice A r.1.2.2.length c], .int .i64 r.2]) ∧ r.1.2.2.length ≤ c ∧ OwnS w' w0 (.slice A r.1.2.2.length c) r.1.2.2
theorem res_M (a : Act) (w : World) (g : Nat) (x y : Int) (v : Value) (e : Int) (h1 : a.tmps.getD 2 undef = .pointer (some ⟨g, 0, none⟩)) (h2 : a.tmps.getD 3 undef = .int .i64 e)
    (c0 : w.cell? ⟨g, 0, none⟩ = some (.int .i64 x)) (c1 : w.cell? ⟨g, 1, none⟩ = some (.int .i64 y)) (c2 : w.cell? ⟨g, 2, none⟩ = some v) :
    (results Try.f156 a.tmps).run Try.prog w = .ok (.tuple #[.agg #[.int .i64 x, .int .i64 y, v], .int .i64 e]) w := by
  rw [results_cell_tmp (p := 2) (u := 3) (ty := 201) rfl, h1, h2]
  go_simp
theorem res_MR (a : Act) (w : World) (g : Nat) (x y : Int) (v : Value) (e : Int) (h1 : a.tmps.getD 2 undef = .pointer (some ⟨g, 0, none⟩)) (h2 : a.tmps.getD 3 undef = .int .i64 e)
    (c0 : w.cell? ⟨g, 0, none⟩ = some (.int .i64 x)) (c1 : w.cell? ⟨g, 1, none⟩ = some (.int .i64 y)) (c2 : w.cell? ⟨g, 2, none⟩ = some v) :
    (results Try.f154 a.tmps).run Try.prog w = .ok (.tuple #[.agg #[.int .i64 x, .int .i64 y, v], .int .i64 e]) w := by
  rw [results_cell_tmp (p := 2) (u := 3) (ty := 201) rfl, h1, h2]
  go_simp
set_option maxHeartbeats 4000000 in
set_option maxRecDepth 100000 in
theorem mread_c (s : ByteArray) (hs : s.size < 1000000000) (w : World) :
    Calls Try.prog 156 #[.string s] w fun e w' => RetM w.heap.size w' e (readM s) ∧ Below w.heap.size w w' := by
  have hn1 := fun W p (h : Rdr W p s 0) => rnum_read p s 0 W h (by omega)
  have hz1 := rdN_size (s, 0)
  have hrm0 : readM s = readM s := rfl
  conv at hrm0 => rhs; unfold readM
  have HRM := Lib.hid hrm0
  clear hrm0
  simp only at hz1
  generalize hrm : readM s = r at *
  clear hrm
  generalize rdN (s, 0) = q1 at *
  obtain ⟨n1, s1, e1⟩ := q1
  simp only at hn1 hz1 HRM
  have hn2 := fun W p (h : Rdr W p s1 e1) => rnum_read p s1 e1 W h (by omega)
  have hz2 := rdN_size (s1, e1)
  simp only at hz2
  generalize rdN (s1, e1) = q2 at *
  obtain ⟨n2, s2, e2⟩ := q2
  simp only at hn2 hz2 HRM
  have hn3 := fun W p (h : Rdr W p s2 e2) => rlist_read p s2 e2 W h (by omega)
  have hz3 := rdLs_size (s2, e2)
  have HLN := Lib.hid (rdLs_len (s2, e2))
  have HEA : Hid (∀ t ∈ (rdLs (s2, e2)).1, t.size < 1000000000) := fun t ht => by have := rdLs_each (s2, e2) t ht; simp only at this; omega
  simp only at hz3
  generalize rdLs (s2, e2) = q3 at *
  obtain ⟨ids, s3, e3⟩ := q3
  simp only at hn3 hz3 HRM HLN HEA
  have hdn := fun W p (h : Rdr W p s3 e3) => (done_c p s3 e3 W h).mono fun r w' (g : _ ∧ w' = W) => (⟨g.1, g.2.symm⟩ : _ ∧ W = w')
  have hck := fun W A c (h : RdS W W.heap.size A ids.length ids) => mchk_c (n1 : Int) (n2 : Int) A ids.length c W.heap.size ids W h (Nat.le_refl _) (by have := HLN.out; omega) HEA.out
  generalize doneE (s3, e3) = d at *
  generalize chkM (n1 : Int) (n2 : Int) ids = ck at *
  go_enter Try.func156, Try.ntmps156
  go_wp2_with fail
  have HG : Hid (∀ X, Below (w.heap.size + 1) (w.alloc (.cells #[.int .i64 0, .int .i64 0, .slice none 0 0] 201)) X → X.cell? ⟨w.heap.size, 0, none⟩ = some (.int .i64 0) ∧ X.cell? ⟨w.heap.size, 1, none⟩ = some (.int .i64 0) ∧ X.cell? ⟨w.heap.size, 2, none⟩ = some (.slice none 0 0) ∧
      X.frozen? ⟨w.heap.size, 0, none⟩ = false ∧ X.frozen? ⟨w.heap.size, 1, none⟩ = false ∧ X.frozen? ⟨w.heap.size, 2, none⟩ = false) := fun X hX =>
    ⟨(hX.cell (p := ⟨w.heap.size, 0, none⟩) (Nat.lt_succ_self _)).trans (by simp), (hX.cell (p := ⟨w.heap.size, 1, none⟩) (Nat.lt_succ_self _)).trans (by simp), (hX.cell (p := ⟨w.heap.size, 2, none⟩) (Nat.lt_succ_self _)).trans (by simp),
     (hX.frozen (p := ⟨w.heap.size, 0, none⟩) (Nat.lt_succ_self _)).trans (by simp), (hX.frozen (p := ⟨w.heap.size, 1, none⟩) (Nat.lt_succ_self _)).trans (by simp), (hX.frozen (p := ⟨w.heap.size, 2, none⟩) (Nat.lt_succ_self _)).trans (by simp)⟩
  have HZ1 : Hid ((w.alloc (.cells #[.int .i64 0, .int .i64 0, .slice none 0 0] 201)).heap.size = w.heap.size + 1) := by show _ = _; simp
  have HBW : Hid (Below w.heap.size w (w.alloc (.cells #[.int .i64 0, .int .i64 0, .slice none 0 0] 201))) := (Below.refl _ _).alloc (Nat.le_refl _) _
  generalize hw1 : w.alloc (.cells #[.int .i64 0, .int .i64 0, .slice none 0 0] 201) = w1 at *
  clear hw1
  have HW : Hid (∀ X, Below w1.heap.size w1 X → Below w.heap.size w X) := fun X hX => HBW.out.trans (hX.mono HBW.out.size)
  have HG2 : Hid (∀ X, Below w1.heap.size w1 X → X.cell? ⟨w.heap.size, 0, none⟩ = some (.int .i64 0) ∧ X.cell? ⟨w.heap.size, 1, none⟩ = some (.int .i64 0) ∧ X.cell? ⟨w.heap.size, 2, none⟩ = some (.slice none 0 0) ∧
      X.frozen? ⟨w.heap.size, 0, none⟩ = false ∧ X.frozen? ⟨w.heap.size, 1, none⟩ = false ∧ X.frozen? ⟨w.heap.size, 2, none⟩ = false) := fun X hX => HG.out X (hX.mono (Nat.le_of_eq HZ1.out.symm))
  have HLT : Hid (w.heap.size < w1.heap.size) := by show _ < _; rw [HZ1.out]; exact Nat.lt_succ_self _
  clear HG
  refine (new_c s w1).mono ?_
  rintro e w2 ⟨rfl, rfl⟩
  have hr2 := Rdr.start s w1
  have HB2 : Hid (Below w1.heap.size w1 (w1.alloc (.cells #[.string s, .int .i64 0] 177))) := (Below.refl _ _).alloc (Nat.le_refl _) _
  generalize w1.alloc (.cells #[.string s, .int .i64 0] 177) = w2 at *
  have h1 := hn1 w2 _ hr2
  clear hn1 hr2
  go_wp2_with fail
  refine h1.mono ?_
  rintro e w3 ⟨rfl, hr3, hg3⟩
  have HB3 : Hid (Below w1.heap.size w1 w3) := HB2.out.trans (below_of_grown hg3 HB2.out.size (Nat.le_refl _))
  have h2 := hn2 w3 _ hr3
  clear hn2 hr3 hg3 HB2 h1
  go_wp2_with fail
  refine h2.mono ?_
  rintro e w4 ⟨rfl, hr4, hg4⟩
  have HB4 : Hid (Below w1.heap.size w1 w4) := HB3.out.trans (below_of_grown hg4 HB3.out.size (Nat.le_refl _))
  have h3 := hn3 w4 _ hr4
  clear hn3 hr4 hg4 HB3 h2
  go_wp2_with fail
  refine h3.mono ?_
  rintro e w5 ⟨⟨v, rfl, ho5⟩, hr5, hg5⟩
  obtain ⟨A, c, rfl, hcc, hrd5⟩ := OwnS.form ho5
  have HCC := Lib.hid hcc
  have HB5 : Hid (Below w1.heap.size w1 w5) := HB4.out.trans (below_of_grown hg5 HB4.out.size (Nat.le_refl _))
  have HO6 : Hid (OwnS (w5.alloc (.cells #[.int .i64 (n1 : Int), .int .i64 (n2 : Int), .slice A ids.length c] 201)) w1.heap.size (.slice A ids.length c) ids) := (World.ownsRow.mono ho5 HB4.out.size).alloc _
  have HRD6 : Hid (RdS (w5.alloc (.cells #[.int .i64 (n1 : Int), .int .i64 (n2 : Int), .slice A ids.length c] 201)) (w5.alloc (.cells #[.int .i64 (n1 : Int), .int .i64 (n2 : Int), .slice A ids.length c] 201)).heap.size A ids.length ids) := Reads.more (Reads.alloc hrd5 (Nat.le_refl _) _) (by simp)
  have HB6 : Hid (Below w1.heap.size w1 (w5.alloc (.cells #[.int .i64 (n1 : Int), .int .i64 (n2 : Int), .slice A ids.length c] 201))) := HB5.out.alloc HB5.out.size _
  have hr6 := hr5.alloc (.cells #[.int .i64 (n1 : Int), .int .i64 (n2 : Int), .slice A ids.length c] 201)
  have g6a : (w5.alloc (.cells #[.int .i64 (n1 : Int), .int .i64 (n2 : Int), .slice A ids.length c] 201)).cell? ⟨w5.heap.size, 0, none⟩ = some (.int .i64 (n1 : Int)) := by simp
  have g6b : (w5.alloc (.cells #[.int .i64 (n1 : Int), .int .i64 (n2 : Int), .slice A ids.length c] 201)).cell? ⟨w5.heap.size, 1, none⟩ = some (.int .i64 (n2 : Int)) := by simp
  have g6c : (w5.alloc (.cells #[.int .i64 (n1 : Int), .int .i64 (n2 : Int), .slice A ids.length c] 201)).cell? ⟨w5.heap.size, 2, none⟩ = some (.slice A ids.length c) := by simp
  clear hcc ho5 hr5 hg5 hrd5 h3 HB4 HB5
  go_wp2_with fail
  generalize w5.alloc (.cells #[.int .i64 (n1 : Int), .int .i64 (n2 : Int), .slice A ids.length c] 201) = w6 at *
  refine (hdn w6 _ hr6).mono ?_
  rintro e w7 ⟨rfl, rfl⟩
  clear hdn hr6
  by_cases hd : d = 0
  · subst hd
    have HRM2 : Hid (r = if ck ≠ 0 then ((0, 0, []), ck) else (((n1 : Int), (n2 : Int), ids), 0)) := by show _ = _; rw [HRM.out, if_neg (by simp)]
    clear HRM
    go_wp2_with fail
    refine (hck w6 A c HRD6.out).mono ?_
    rintro e w8 ⟨rfl, hb8⟩
    have HB8 : Hid (Below w1.heap.size w1 w8) := HB6.out.trans (hb8.mono HB6.out.size)
    have g8a := keepc hb8 g6a
    have g8b := keepc hb8 g6b
    have g8c := keepc hb8 g6c
    have HO8 : Hid (OwnS w8 w1.heap.size (.slice A ids.length c) ids) := own_below HO6.out hb8
    clear hb8 g6a g6b g6c hck
    by_cases hk : ck = 0
    · subst hk
      obtain ⟨x0, x1, x2, x3, x4, x5⟩ := HG2.out w8 HB8.out
      have HF : Hid (r = (((n1 : Int), (n2 : Int), ids), 0)) := by show _ = _; rw [HRM2.out, if_neg (by simp)]
      have HBF : Hid (∀ u1 u2 u3, Below w.heap.size w (((w8.setCell ⟨w.heap.size, 0, none⟩ u1).setCell ⟨w.heap.size, 1, none⟩ u2).setCell ⟨w.heap.size, 2, none⟩ u3)) := fun u1 u2 u3 => (((HW.out _ HB8.out).setCell (Nat.le_refl _) _).setCell (Nat.le_refl _) _).setCell (Nat.le_refl _) _
      have HOF : Hid (∀ u1 u2 u3, OwnS (((w8.setCell ⟨w.heap.size, 0, none⟩ u1).setCell ⟨w.heap.size, 1, none⟩ u2).setCell ⟨w.heap.size, 2, none⟩ u3) w.heap.size (.slice A ids.length c) ids) := fun u1 u2 u3 =>
        World.ownsRow.mono (own_grown (own_grown (own_grown HO8.out (grown_cell _ w.heap.size 0 u1) HLT.out) (grown_cell _ w.heap.size 1 u2) HLT.out) (grown_cell _ w.heap.size 2 u3) HLT.out) (Nat.le_of_lt HLT.out)
      clear HRM2 HO8
      go_wp2_with fail
      refine bodyPost_ret (res_M _ _ w.heap.size (n1 : Int) (n2 : Int) (.slice A ids.length c) 0 rfl rfl ?_ ?_ ?_) rfl ?_
      · go_simp
      · go_simp
      · go_simp
      · rw [HF.out]
        exact ⟨⟨_, _, rfl, HCC.out, HOF.out _ _ _⟩, HBF.out _ _ _⟩
    · have hkb : (ck != 0) = true := by simpa using hk
      obtain ⟨x0, x1, x2, x3, x4, x5⟩ := HG2.out w8 HB8.out
      have HF : Hid (r = ((0, 0, []), ck)) := by show _ = _; rw [HRM2.out, if_pos hk]
      have HBF : Hid (∀ u1 u2 u3, Below w.heap.size w (((w8.setCell ⟨w.heap.size, 0, none⟩ u1).setCell ⟨w.heap.size, 1, none⟩ u2).setCell ⟨w.heap.size, 2, none⟩ u3)) := fun u1 u2 u3 => (((HW.out _ HB8.out).setCell (Nat.le_refl _) _).setCell (Nat.le_refl _) _).setCell (Nat.le_refl _) _
      go_wp2_with fail
      refine bodyPost_ret (res_M _ _ w.heap.size 0 0 (.slice none 0 0) ck rfl rfl ?_ ?_ ?_) rfl ?_
      · go_simp
      · go_simp
      · go_simp
      · rw [HF.out]
        exact ⟨⟨none, 0, rfl, Nat.zero_le _, OwnS.nil _ _⟩, HBF.out _ _ _⟩
  · have hdb : (d != 0) = true := by simpa using hd
    have hdb2 : (d == 0) = false := by simpa using hd
    clear hck
    obtain ⟨x0, x1, x2, x3, x4, x5⟩ := HG2.out w6 HB6.out
    have HF : Hid (r = ((0, 0, []), d)) := by show _ = _; rw [HRM.out, if_pos hd]
    have HBF : Hid (∀ u1 u2 u3, Below w.heap.size w (((w6.setCell ⟨w.heap.size, 0, none⟩ u1).setCell ⟨w.heap.size, 1, none⟩ u2).setCell ⟨w.heap.size, 2, none⟩ u3)) := fun u1 u2 u3 => (((HW.out _ HB6.out).setCell (Nat.le_refl _) _).setCell (Nat.le_refl _) _).setCell (Nat.le_refl _) _
    go_wp2_with fail
    refine bodyPost_ret (res_M _ _ w.heap.size 0 0 (.slice none 0 0) d rfl rfl ?_ ?_ ?_) rfl ?_
    · go_simp
    · go_simp
    · go_simp
    · rw [HF.out]
      exact ⟨⟨none, 0, rfl, Nat.zero_le _, OwnS.nil _ _⟩, HBF.out _ _ _⟩
end Go.Proofs.Ytmhkalalcmkpbaa

namespace Go.Proofs.Ytmhkalalcmkpbaa
open Go.RowKit
set_option linter.unusedVariables false
set_option linter.unusedSimpArgs false

set_option maxHeartbeats 4000000 in
set_option maxRecDepth 100000 in
theorem rmread_c (s : ByteArray) (hs : s.size < 1000000000) (w : World) :
    Calls Try.prog 154 #[.string s] w fun e w' => RetM w.heap.size w' e (readM s) ∧ Below w.heap.size w w' := by
  have hn1 := fun W => rrnum_c s 0 (by omega) W
  have hz1 := rdN_size (s, 0)
  have hrm0 : readM s = readM s := rfl
  conv at hrm0 => rhs; unfold readM
  have HRM := Lib.hid hrm0
  clear hrm0
  simp only at hz1
  generalize hrm : readM s = r at *
  clear hrm
  generalize rdN (s, 0) = q1 at *
  obtain ⟨n1, s1, e1⟩ := q1
  simp only at hn1 hz1 HRM
  have hn2 := fun W => rrnum_c s1 e1 (by omega) W
  have hz2 := rdN_size (s1, e1)
  simp only at hz2
  generalize rdN (s1, e1) = q2 at *
  obtain ⟨n2, s2, e2⟩ := q2
  simp only at hn2 hz2 HRM
  have hn3 := fun W => rrlist_c s2 e2 (by omega) W
  have hz3 := rdLs_size (s2, e2)
  have HLN := Lib.hid (rdLs_len (s2, e2))
  have HEA : Hid (∀ t ∈ (rdLs (s2, e2)).1, t.size < 1000000000) := fun t ht => by have := rdLs_each (s2, e2) t ht; simp only at this; omega
  simp only at hz3
  generalize rdLs (s2, e2) = q3 at *
  obtain ⟨ids, s3, e3⟩ := q3
  simp only at hn3 hz3 HRM HLN HEA
  have hdn := fun W => rdone_c s3 e3 W
  have hck := fun W A c (h : RdS W W.heap.size A ids.length ids) => rmchk_c (n1 : Int) (n2 : Int) A ids.length c W.heap.size ids W h (Nat.le_refl _) (by have := HLN.out; omega) HEA.out
  generalize doneE (s3, e3) = d at *
  generalize chkM (n1 : Int) (n2 : Int) ids = ck at *
  go_enter Try.func154, Try.ntmps154
  go_wp2_with fail
  have HG : Hid (∀ X, Below (w.heap.size + 1) (w.alloc (.cells #[.int .i64 0, .int .i64 0, .slice none 0 0] 201)) X → X.cell? ⟨w.heap.size, 0, none⟩ = some (.int .i64 0) ∧ X.cell? ⟨w.heap.size, 1, none⟩ = some (.int .i64 0) ∧ X.cell? ⟨w.heap.size, 2, none⟩ = some (.slice none 0 0) ∧
      X.frozen? ⟨w.heap.size, 0, none⟩ = false ∧ X.frozen? ⟨w.heap.size, 1, none⟩ = false ∧ X.frozen? ⟨w.heap.size, 2, none⟩ = false) := fun X hX =>
    ⟨(hX.cell (p := ⟨w.heap.size, 0, none⟩) (Nat.lt_succ_self _)).trans (by simp), (hX.cell (p := ⟨w.heap.size, 1, none⟩) (Nat.lt_succ_self _)).trans (by simp), (hX.cell (p := ⟨w.heap.size, 2, none⟩) (Nat.lt_succ_self _)).trans (by simp),
     (hX.frozen (p := ⟨w.heap.size, 0, none⟩) (Nat.lt_succ_self _)).trans (by simp), (hX.frozen (p := ⟨w.heap.size, 1, none⟩) (Nat.lt_succ_self _)).trans (by simp), (hX.frozen (p := ⟨w.heap.size, 2, none⟩) (Nat.lt_succ_self _)).trans (by simp)⟩
  have HZ1 : Hid ((w.alloc (.cells #[.int .i64 0, .int .i64 0, .slice none 0 0] 201)).heap.size = w.heap.size + 1) := by show _ = _; simp
  have HBW : Hid (Below w.heap.size w (w.alloc (.cells #[.int .i64 0, .int .i64 0, .slice none 0 0] 201))) := (Below.refl _ _).alloc (Nat.le_refl _) _
  generalize hw1 : w.alloc (.cells #[.int .i64 0, .int .i64 0, .slice none 0 0] 201) = w1 at *
  clear hw1
  have HW : Hid (∀ X, Below w1.heap.size w1 X → Below w.heap.size w X) := fun X hX => HBW.out.trans (hX.mono HBW.out.size)
  have HG2 : Hid (∀ X, Below w1.heap.size w1 X → X.cell? ⟨w.heap.size, 0, none⟩ = some (.int .i64 0) ∧ X.cell? ⟨w.heap.size, 1, none⟩ = some (.int .i64 0) ∧ X.cell? ⟨w.heap.size, 2, none⟩ = some (.slice none 0 0) ∧
      X.frozen? ⟨w.heap.size, 0, none⟩ = false ∧ X.frozen? ⟨w.heap.size, 1, none⟩ = false ∧ X.frozen? ⟨w.heap.size, 2, none⟩ = false) := fun X hX => HG.out X (hX.mono (Nat.le_of_eq HZ1.out.symm))
  have HLT : Hid (w.heap.size < w1.heap.size) := by show _ < _; rw [HZ1.out]; exact Nat.lt_succ_self _
  clear HG
  refine (hn1 w1).mono ?_
  rintro e w2 ⟨rfl, hb2⟩
  have HB2 : Hid (Below w1.heap.size w1 (w2.alloc (.cells #[.string s1, .int .i64 e1] 127))) := hb2.alloc hb2.size _
  have hr2 : Rdr (w2.alloc (.cells #[.string s1, .int .i64 e1] 127)) w2.heap.size s1 e1 := Rdr.make _ _ _ _
  have HPL : Hid (w1.heap.size ≤ w2.heap.size) := hb2.size
  have HPL2 : Hid (w2.heap.size < (w2.alloc (.cells #[.string s1, .int .i64 e1] 127)).heap.size) := hr2.lt
  have c0 := hr2.text
  have c1 := hr2.err
  clear hn1 hb2
  go_wp2_with fail
  generalize w2.alloc (.cells #[.string s1, .int .i64 e1] 127) = w3 at *
  generalize hp : w2.heap.size = p at *
  clear hp
  refine (hn2 w3).mono ?_
  rintro e w4 ⟨rfl, hb4⟩
  have hr4 := hr2.grown hb4 hr2.lt
  have HR4 := Lib.hid ((hr4.set0 s2).set1 e2)
  have HB4 : Hid (Below w1.heap.size w1 ((w4.setCell ⟨p, 0, none⟩ (.string s2)).setCell ⟨p, 1, none⟩ (.int .i64 e2))) := ((HB2.out.trans (hb4.mono HB2.out.size)).setCell HPL.out _).setCell HPL.out _
  have k0 := hr4.text
  have k1 := hr4.err
  have k2 := hr4.free0
  have k3 := hr4.free1
  have HP4 : Hid (p < ((w4.setCell ⟨p, 0, none⟩ (.string s2)).setCell ⟨p, 1, none⟩ (.int .i64 e2)).heap.size) := HR4.out.lt
  have c0' := HR4.out.text
  have c1' := HR4.out.err
  clear hn2 hb4 hr2 hr4 c0 c1 HB2
  go_wp2_with fail
  clear k0 k1 k2 k3
  generalize (w4.setCell ⟨p, 0, none⟩ (.string s2)).setCell ⟨p, 1, none⟩ (.int .i64 e2) = w5 at *
  refine (hn3 w5).mono ?_
  rintro e w6 ⟨⟨v, rfl, ho6⟩, hb6⟩
  obtain ⟨A, c, rfl, hcc, hrd6⟩ := OwnS.form ho6
  have HCC := Lib.hid hcc
  have hr6 := HR4.out.grown hb6 HR4.out.lt
  have HR7 := Lib.hid (((hr6.set0 s3).set1 e3).alloc (.cells #[.int .i64 (n1 : Int), .int .i64 (n2 : Int), .slice A ids.length c] 201))
  have HB7 : Hid (Below w1.heap.size w1 (((w6.setCell ⟨p, 0, none⟩ (.string s3)).setCell ⟨p, 1, none⟩ (.int .i64 e3)).alloc (.cells #[.int .i64 (n1 : Int), .int .i64 (n2 : Int), .slice A ids.length c] 201))) := (((HB4.out.trans (hb6.mono HB4.out.size)).setCell HPL.out _).setCell HPL.out _).alloc (by have h1 := HB4.out.size; have h2 := hb6.size; simp [World.setCell]; omega) _
  have ho7 := own_grown (own_grown ho6 (grown_cell _ p 0 (.string s3)) HP4.out) (grown_cell _ p 1 (.int .i64 e3)) HP4.out
  have HO7 : Hid (OwnS (((w6.setCell ⟨p, 0, none⟩ (.string s3)).setCell ⟨p, 1, none⟩ (.int .i64 e3)).alloc (.cells #[.int .i64 (n1 : Int), .int .i64 (n2 : Int), .slice A ids.length c] 201)) w1.heap.size (.slice A ids.length c) ids) := (World.ownsRow.mono ho7 HB4.out.size).alloc _
  have k0 := hr6.text
  have k1 := hr6.err
  have k2 := hr6.free0
  have k3 := hr6.free1
  have g7a : (((w6.setCell ⟨p, 0, none⟩ (.string s3)).setCell ⟨p, 1, none⟩ (.int .i64 e3)).alloc (.cells #[.int .i64 (n1 : Int), .int .i64 (n2 : Int), .slice A ids.length c] 201)).cell? ⟨w6.heap.size, 0, none⟩ = some (.int .i64 (n1 : Int)) := by go_simp
  have g7b : (((w6.setCell ⟨p, 0, none⟩ (.string s3)).setCell ⟨p, 1, none⟩ (.int .i64 e3)).alloc (.cells #[.int .i64 (n1 : Int), .int .i64 (n2 : Int), .slice A ids.length c] 201)).cell? ⟨w6.heap.size, 1, none⟩ = some (.int .i64 (n2 : Int)) := by go_simp
  have g7c : (((w6.setCell ⟨p, 0, none⟩ (.string s3)).setCell ⟨p, 1, none⟩ (.int .i64 e3)).alloc (.cells #[.int .i64 (n1 : Int), .int .i64 (n2 : Int), .slice A ids.length c] 201)).cell? ⟨w6.heap.size, 2, none⟩ = some (.slice A ids.length c) := by go_simp
  have c7 := HR7.out.text
  have c7' := HR7.out.err
  clear hn3 hb6 hcc hrd6 hr6 ho6 ho7 c0' c1' HR4 HB4
  go_wp2_with fail
  clear k0 k1 k2 k3
  generalize ((w6.setCell ⟨p, 0, none⟩ (.string s3)).setCell ⟨p, 1, none⟩ (.int .i64 e3)).alloc (.cells #[.int .i64 (n1 : Int), .int .i64 (n2 : Int), .slice A ids.length c] 201) = w7 at *
  refine (hdn w7).mono ?_
  rintro e w9 ⟨rfl, hb9⟩
  have g6a := keepc hb9 g7a
  have g6b := keepc hb9 g7b
  have g6c := keepc hb9 g7c
  have HB6 : Hid (Below w1.heap.size w1 w9) := HB7.out.trans (hb9.mono HB7.out.size)
  have HO6 : Hid (OwnS w9 w1.heap.size (.slice A ids.length c) ids) := own_below HO7.out hb9
  obtain ⟨A9, c9, hv9, _, hrd9⟩ := OwnS.form HO6.out
  have HRD6 : Hid (RdS w9 w9.heap.size A ids.length ids) := by
    injection hv9 with h1 h2 h3
    show RdS _ _ _ _ _
    rw [h1]; exact hrd9
  clear hdn hb9 g7a g7b g7c c7 c7' HR7 HB7 HO7 hv9 hrd9
  by_cases hd : d = 0
  · subst hd
    have HRM2 : Hid (r = if ck ≠ 0 then ((0, 0, []), ck) else (((n1 : Int), (n2 : Int), ids), 0)) := by show _ = _; rw [HRM.out, if_neg (by simp)]
    clear HRM
    go_wp2_with fail
    refine (hck w9 A c HRD6.out).mono ?_
    rintro e w8 ⟨rfl, hb8⟩
    have HB8 : Hid (Below w1.heap.size w1 w8) := HB6.out.trans (hb8.mono HB6.out.size)
    have g8a := keepc hb8 g6a
    have g8b := keepc hb8 g6b
    have g8c := keepc hb8 g6c
    have HO8 : Hid (OwnS w8 w1.heap.size (.slice A ids.length c) ids) := own_below HO6.out hb8
    clear hb8 g6a g6b g6c hck
    by_cases hk : ck = 0
    · subst hk
      obtain ⟨x0, x1, x2, x3, x4, x5⟩ := HG2.out w8 HB8.out
      have HF : Hid (r = (((n1 : Int), (n2 : Int), ids), 0)) := by show _ = _; rw [HRM2.out, if_neg (by simp)]
      have HBF : Hid (∀ u1 u2 u3, Below w.heap.size w (((w8.setCell ⟨w.heap.size, 0, none⟩ u1).setCell ⟨w.heap.size, 1, none⟩ u2).setCell ⟨w.heap.size, 2, none⟩ u3)) := fun u1 u2 u3 => (((HW.out _ HB8.out).setCell (Nat.le_refl _) _).setCell (Nat.le_refl _) _).setCell (Nat.le_refl _) _
      have HOF : Hid (∀ u1 u2 u3, OwnS (((w8.setCell ⟨w.heap.size, 0, none⟩ u1).setCell ⟨w.heap.size, 1, none⟩ u2).setCell ⟨w.heap.size, 2, none⟩ u3) w.heap.size (.slice A ids.length c) ids) := fun u1 u2 u3 =>
        World.ownsRow.mono (own_grown (own_grown (own_grown HO8.out (grown_cell _ w.heap.size 0 u1) HLT.out) (grown_cell _ w.heap.size 1 u2) HLT.out) (grown_cell _ w.heap.size 2 u3) HLT.out) (Nat.le_of_lt HLT.out)
      clear HRM2 HO8
      go_wp2_with fail
      refine bodyPost_ret (res_MR _ _ w.heap.size (n1 : Int) (n2 : Int) (.slice A ids.length c) 0 rfl rfl ?_ ?_ ?_) rfl ?_
      · go_simp
      · go_simp
      · go_simp
      · rw [HF.out]
        exact ⟨⟨_, _, rfl, HCC.out, HOF.out _ _ _⟩, HBF.out _ _ _⟩
    · have hkb : (ck != 0) = true := by simpa using hk
      obtain ⟨x0, x1, x2, x3, x4, x5⟩ := HG2.out w8 HB8.out
      have HF : Hid (r = ((0, 0, []), ck)) := by show _ = _; rw [HRM2.out, if_pos hk]
      have HBF : Hid (∀ u1 u2 u3, Below w.heap.size w (((w8.setCell ⟨w.heap.size, 0, none⟩ u1).setCell ⟨w.heap.size, 1, none⟩ u2).setCell ⟨w.heap.size, 2, none⟩ u3)) := fun u1 u2 u3 => (((HW.out _ HB8.out).setCell (Nat.le_refl _) _).setCell (Nat.le_refl _) _).setCell (Nat.le_refl _) _
      go_wp2_with fail
      refine bodyPost_ret (res_MR _ _ w.heap.size 0 0 (.slice none 0 0) ck rfl rfl ?_ ?_ ?_) rfl ?_
      · go_simp
      · go_simp
      · go_simp
      · rw [HF.out]
        exact ⟨⟨none, 0, rfl, Nat.zero_le _, OwnS.nil _ _⟩, HBF.out _ _ _⟩
  · have hdb : (d != 0) = true := by simpa using hd
    have hdb2 : (d == 0) = false := by simpa using hd
    clear hck
    obtain ⟨x0, x1, x2, x3, x4, x5⟩ := HG2.out w9 HB6.out
    have HF : Hid (r = ((0, 0, []), d)) := by show _ = _; rw [HRM.out, if_pos hd]
    have HBF : Hid (∀ u1 u2 u3, Below w.heap.size w (((w9.setCell ⟨w.heap.size, 0, none⟩ u1).setCell ⟨w.heap.size, 1, none⟩ u2).setCell ⟨w.heap.size, 2, none⟩ u3)) := fun u1 u2 u3 => (((HW.out _ HB6.out).setCell (Nat.le_refl _) _).setCell (Nat.le_refl _) _).setCell (Nat.le_refl _) _
    go_wp2_with fail
    refine bodyPost_ret (res_MR _ _ w.heap.size 0 0 (.slice none 0 0) d rfl rfl ?_ ?_ ?_) rfl ?_
    · go_simp
    · go_simp
    · go_simp
    · rw [HF.out]
      exact ⟨⟨none, 0, rfl, Nat.zero_le _, OwnS.nil _ _⟩, HBF.out _ _ _⟩
end Go.Proofs.Ytmhkalalcmkpbaa

namespace Go.Proofs.Ytmhkalalcmkpbaa
open Go.RowKit
set_option linter.unusedVariables false
set_option linter.unusedSimpArgs false

/-- A fact: its dot, stamp, kind, name and value. -/
abbrev FactT := (Int × Int) × (Int × Int × Int) × Int × ByteArray × ByteArray
abbrev factv (f : FactT) : Value := .agg #[.int .i64 f.1.1, .int .i64 f.1.2, .int .i64 f.2.1.1, .int .i64 f.2.1.2.1, .int .i64 f.2.1.2.2, .int .i64 f.2.2.1, .string f.2.2.2.1, .string f.2.2.2.2]
def nameOk (s : ByteArray) : Bool := decide (s.size ≠ 0 ∧ s.size ≤ 64)
def valE (k : Int) (v : ByteArray) : Int :=
  if k = 1 then (if 16384 < v.size then 3 else (readM v).2) else if k = 2 then (if 256 < v.size then 3 else 0) else if k = 3 then (if nameOk v = true then 0 else 14) else if k = 4 then (if v.size ≠ 8 then 5 else 0) else 0
def chkF (f : FactT) : Int :=
  if chk f.1 ≠ 0 then chk f.1 else if chkS f.2.1 ≠ 0 then chkS f.2.1 else if f.1.1 ≠ f.2.1.2.2 then 5 else if f.2.2.1 < 1 ∨ 4 < f.2.2.1 then 1 else if nameOk f.2.2.2.1 = false then 14 else valE f.2.2.1 f.2.2.2.2

set_option maxRecDepth 100000 in
theorem named_c (s : ByteArray) (hs : s.size ≤ 9223372036854775807) (w : World) : Calls Try.prog 138 #[.string s] w fun e w' => e = .returned (.bool (nameOk s)) ∧ w = w' := by
  have hse := str_empty_iff s
  by_cases h0 : s.size = 0
  · have hn : nameOk s = false := decide_eq_false (by omega)
    rw [hn]; clear hn
    rw [decide_eq_true h0] at hse
    have hse2 : s.toList = [] := by simpa using hse
    go_enter Try.func138, Try.ntmps138
    go_wp2
    go_ret
    exact ⟨rfl, rfl⟩
  · rw [decide_eq_false h0] at hse
    have hse2 : ¬ s.toList = [] := fun h => by rw [h] at hse; cases hse
    by_cases h1 : s.size ≤ 64
    · have hn : nameOk s = true := decide_eq_true ⟨h0, h1⟩
      rw [hn]; clear hn
      have hd : decide ((s.size : Int) ≤ 64) = true := decide_eq_true (by omega)
      go_enter Try.func138, Try.ntmps138
      go_wp2
      go_ret
      exact ⟨rfl, rfl⟩
    · have hn : nameOk s = false := decide_eq_false (by omega)
      rw [hn]; clear hn
      have hd : decide ((s.size : Int) ≤ 64) = false := decide_eq_false (by omega)
      go_enter Try.func138, Try.ntmps138
      go_wp2
      go_ret
      exact ⟨rfl, rfl⟩

set_option maxHeartbeats 2000000 in
set_option maxRecDepth 100000 in
theorem value_c (f : FactT) (hv : f.2.2.2.2.size < 1000000000) (w : World) : Calls Try.prog 139 #[factv f] w fun e w' => e = .returned (.int .i64 (valE f.2.2.1 f.2.2.2.2)) ∧ Below w.heap.size w w' := by
  obtain ⟨⟨d1, d2⟩, ⟨t, c, r⟩, k, n, v⟩ := f
  simp only [factv] at hv ⊢
  have HBX : Hid (∀ X : World, Below (w.alloc (.cells #[.int .i64 d1, .int .i64 d2, .int .i64 t, .int .i64 c, .int .i64 r, .int .i64 k, .string n, .string v] 87)).heap.size (w.alloc (.cells #[.int .i64 d1, .int .i64 d2, .int .i64 t, .int .i64 c, .int .i64 r, .int .i64 k, .string n, .string v] 87)) X → Below w.heap.size w X) := fun X hX => ((Below.refl w.heap.size w).alloc (Nat.le_refl _) _).trans (hX.mono (by simp))
  by_cases hk1 : k = 1
  · subst hk1
    by_cases h1 : 16384 < v.size
    · have hd : decide ((v.size : Int) > 16384) = true := decide_eq_true (by omega)
      have hc : valE 1 v = 3 := by unfold valE; rw [if_pos rfl, if_pos h1]
      rw [hc]; clear hc
      go_enter Try.func139, Try.ntmps139
      go_wp2
      go_ret
      exact ⟨rfl, (Below.refl _ _).alloc (Nat.le_refl _) _⟩
    · have hd : decide ((v.size : Int) > 16384) = false := decide_eq_false (by omega)
      have hc : valE 1 v = (readM v).2 := by unfold valE; rw [if_pos rfl, if_neg h1]
      rw [hc]; clear hc
      have hm := fun W => mread_c v hv W
      generalize readM v = q at *
      obtain ⟨⟨q1, q2, q3⟩, q4⟩ := q
      simp only [RetM] at hm
      go_enter Try.func139, Try.ntmps139
      go_wp2_with fail
      refine (hm _).mono ?_
      rintro e w5 ⟨⟨A, c2, rfl, _, _⟩, hb5⟩
      go_wp2_with fail
      go_ret
      exact ⟨rfl, (HBX.out _ hb5).alloc (HBX.out _ hb5).size _⟩
  · have hb1 : (k == 1) = false := by simpa using hk1
    by_cases hk2 : k = 2
    · subst hk2
      by_cases h1 : 256 < v.size
      · have hd : decide ((v.size : Int) > 256) = true := decide_eq_true (by omega)
        have hc : valE 2 v = 3 := by unfold valE; rw [if_neg (by decide), if_pos rfl, if_pos h1]
        rw [hc]; clear hc
        go_enter Try.func139, Try.ntmps139
        go_wp2
        go_ret
        exact ⟨rfl, (Below.refl _ _).alloc (Nat.le_refl _) _⟩
      · have hd : decide ((v.size : Int) > 256) = false := decide_eq_false (by omega)
        have hc : valE 2 v = 0 := by unfold valE; rw [if_neg (by decide), if_pos rfl, if_neg h1]
        rw [hc]; clear hc
        go_enter Try.func139, Try.ntmps139
        go_wp2
        go_ret
        exact ⟨rfl, (Below.refl _ _).alloc (Nat.le_refl _) _⟩
    · have hb2 : (k == 2) = false := by simpa using hk2
      by_cases hk3 : k = 3
      · subst hk3
        have hn := fun W => named_c v (by omega) W
        have hc : valE 3 v = if nameOk v = true then 0 else 14 := by unfold valE; rw [if_neg (by decide), if_neg (by decide), if_pos rfl]
        rw [hc]; clear hc
        generalize nameOk v = b at *
        cases b with
        | true =>
          go_enter Try.func139, Try.ntmps139
          go_wp2_with fail
          refine (hn _).mono ?_
          rintro e w5 ⟨rfl, rfl⟩
          go_wp2_with fail
          go_ret
          exact ⟨rfl, (Below.refl _ _).alloc (Nat.le_refl _) _⟩
        | false =>
          go_enter Try.func139, Try.ntmps139
          go_wp2_with fail
          refine (hn _).mono ?_
          rintro e w5 ⟨rfl, rfl⟩
          go_wp2_with fail
          go_ret
          exact ⟨rfl, (Below.refl _ _).alloc (Nat.le_refl _) _⟩
      · have hb3 : (k == 3) = false := by simpa using hk3
        by_cases hk4 : k = 4
        · subst hk4
          by_cases h1 : v.size = 8
          · have hd : ((v.size : Int) != 8) = false := by rw [bne_eq_false_iff_eq]; omega
            have hc : valE 4 v = 0 := by unfold valE; rw [if_neg (by decide), if_neg (by decide), if_neg (by decide), if_pos rfl, if_neg (by simpa using h1)]
            rw [hc]; clear hc
            go_enter Try.func139, Try.ntmps139
            go_wp2
            go_ret
            exact ⟨rfl, (Below.refl _ _).alloc (Nat.le_refl _) _⟩
          · have hd : ((v.size : Int) != 8) = true := by rw [bne_iff_ne]; omega
            have hc : valE 4 v = 5 := by unfold valE; rw [if_neg (by decide), if_neg (by decide), if_neg (by decide), if_pos rfl, if_pos h1]
            rw [hc]; clear hc
            go_enter Try.func139, Try.ntmps139
            go_wp2
            go_ret
            exact ⟨rfl, (Below.refl _ _).alloc (Nat.le_refl _) _⟩
        · have hb4 : (k == 4) = false := by simpa using hk4
          have hc : valE k v = 0 := by unfold valE; rw [if_neg hk1, if_neg hk2, if_neg hk3, if_neg hk4]
          rw [hc]; clear hc
          go_enter Try.func139, Try.ntmps139
          go_wp2
          go_ret
          exact ⟨rfl, (Below.refl _ _).alloc (Nat.le_refl _) _⟩

set_option maxHeartbeats 4000000 in
set_option maxRecDepth 100000 in
theorem fcheck_c (f : FactT) (hn : f.2.2.2.1.size ≤ 9223372036854775807) (hv : f.2.2.2.2.size < 1000000000) (w : World) : Calls Try.prog 102 #[factv f] w fun e w' => e = .returned (.int .i64 (chkF f)) ∧ Below w.heap.size w w' := by
  obtain ⟨⟨d1, d2⟩, ⟨t, c, r⟩, k, n, v⟩ := f
  simp only at hn hv
  have hcd := fun W => check_c (d1, d2) W
  have hcs := fun W => schk_c (t, c, r) W
  have hvl := fun W => value_c ((d1, d2), (t, c, r), k, n, v) hv W
  simp only [factv] at hvl
  have HCF : Hid (chkF ((d1, d2), (t, c, r), k, n, v) = if chk (d1, d2) ≠ 0 then chk (d1, d2) else if chkS (t, c, r) ≠ 0 then chkS (t, c, r) else if d1 ≠ r then 5 else if k < 1 ∨ 4 < k then 1 else if nameOk n = false then 14 else valE k v) := rfl
  generalize chkF ((d1, d2), (t, c, r), k, n, v) = cf at *
  simp only [factv, stv, dotv] at hcd hcs ⊢
  generalize chk (d1, d2) = e1 at *
  generalize chkS (t, c, r) = e2 at *
  have HG : Hid (∀ X, Below (w.alloc (.cells #[.int .i64 d1, .int .i64 d2, .int .i64 t, .int .i64 c, .int .i64 r, .int .i64 k, .string n, .string v] 87)).heap.size (w.alloc (.cells #[.int .i64 d1, .int .i64 d2, .int .i64 t, .int .i64 c, .int .i64 r, .int .i64 k, .string n, .string v] 87)) X → X.cell? ⟨w.heap.size, 0, none⟩ = some (.int .i64 d1) ∧ X.cell? ⟨w.heap.size, 1, none⟩ = some (.int .i64 d2) ∧ X.cell? ⟨w.heap.size, 2, none⟩ = some (.int .i64 t) ∧ X.cell? ⟨w.heap.size, 3, none⟩ = some (.int .i64 c) ∧ X.cell? ⟨w.heap.size, 4, none⟩ = some (.int .i64 r) ∧ X.cell? ⟨w.heap.size, 5, none⟩ = some (.int .i64 k) ∧ X.cell? ⟨w.heap.size, 6, none⟩ = some (.string n) ∧ X.cell? ⟨w.heap.size, 7, none⟩ = some (.string v)) := fun X hX =>
    ⟨keepc hX (by simp), keepc hX (by simp), keepc hX (by simp), keepc hX (by simp), keepc hX (by simp), keepc hX (by simp), keepc hX (by simp), keepc hX (by simp)⟩
  have HBX : Hid (∀ X : World, Below (w.alloc (.cells #[.int .i64 d1, .int .i64 d2, .int .i64 t, .int .i64 c, .int .i64 r, .int .i64 k, .string n, .string v] 87)).heap.size (w.alloc (.cells #[.int .i64 d1, .int .i64 d2, .int .i64 t, .int .i64 c, .int .i64 r, .int .i64 k, .string n, .string v] 87)) X → Below w.heap.size w X) := fun X hX => ((Below.refl w.heap.size w).alloc (Nat.le_refl _) _).trans (hX.mono (by simp))
  go_enter Try.func102, Try.ntmps102
  go_wp2_with fail
  generalize hW : w.alloc (.cells #[.int .i64 d1, .int .i64 d2, .int .i64 t, .int .i64 c, .int .i64 r, .int .i64 k, .string n, .string v] 87) = w1 at *
  clear hW
  refine (hcd _).mono ?_
  rintro e w2 ⟨rfl, hb⟩
  have HB_w2 : Hid (Below w1.heap.size w1 w2) := hb
  clear hb
  obtain ⟨g0, g1, g2, g3, g4, g5, g6, g7⟩ := HG.out w2 HB_w2.out
  by_cases h1 : e1 = 0
  · subst h1
    go_wp2_with fail
    refine (hcs _).mono ?_
    rintro e w3 ⟨rfl, hb⟩
    have HB_w3 : Hid (Below w1.heap.size w1 w3) := HB_w2.out.trans (hb.mono HB_w2.out.size)
    clear hb
    clear g0 g1 g2 g3 g4 g5 g6 g7
    obtain ⟨g0, g1, g2, g3, g4, g5, g6, g7⟩ := HG.out w3 HB_w3.out
    by_cases h2 : e2 = 0
    · subst h2
      by_cases h3 : d1 = r
      · subst h3
        have d3 : (d1 != d1) = false := by simp
        by_cases h4 : k < 1
        · have d4 : decide (k < 1) = true := decide_eq_true h4
          have HF : Hid (cf = 1) := by show _ = _; rw [HCF.out, if_neg (by simp), if_neg (by simp), if_neg (by simp), if_pos (.inl h4)]
          clear HCF
          go_wp2_with fail
          go_ret
          exact ⟨ret_int HF.out.symm, HBX.out _ HB_w3.out⟩
        · have d4 : decide (k < 1) = false := decide_eq_false h4
          by_cases h5 : 4 < k
          · have d5 : decide (k > 4) = true := decide_eq_true h5
            have HF : Hid (cf = 1) := by show _ = _; rw [HCF.out, if_neg (by simp), if_neg (by simp), if_neg (by simp), if_pos (.inr h5)]
            clear HCF
            go_wp2_with fail
            go_ret
            exact ⟨ret_int HF.out.symm, HBX.out _ HB_w3.out⟩
          · have d5 : decide (k > 4) = false := decide_eq_false h5
            have hnm := fun W => named_c n hn W
            have HNM : Hid (nameOk n = nameOk n) := rfl
            generalize hnb : nameOk n = b at hnm
            have HNB := Lib.hid hnb
            clear hnb
            cases b with
            | false =>
              go_wp2_with fail
              refine (hnm _).mono ?_
              rintro e w5 ⟨rfl, rfl⟩
              have HF : Hid (cf = 14) := by show _ = _; rw [HCF.out, if_neg (by simp), if_neg (by simp), if_neg (by simp), if_neg (by omega), if_pos HNB.out]
              clear HCF
              go_wp2_with fail
              go_ret
              exact ⟨ret_int HF.out.symm, HBX.out _ HB_w3.out⟩
            | true =>
              go_wp2_with fail
              refine (hnm _).mono ?_
              rintro e w5 ⟨rfl, rfl⟩
              go_wp2_with fail
              refine (hvl _).mono ?_
              rintro e w6 ⟨rfl, hb6⟩
              have HB_w6 : Hid (Below w1.heap.size w1 w6) := HB_w3.out.trans (hb6.mono HB_w3.out.size)
              clear hb6
              have HF : Hid (cf = valE k v) := by show _ = _; rw [HCF.out, if_neg (by simp), if_neg (by simp), if_neg (by simp), if_neg (by omega), if_neg (by rw [HNB.out]; simp)]
              clear HCF
              go_wp2_with fail
              go_ret
              exact ⟨ret_int HF.out.symm, HBX.out _ HB_w6.out⟩
      · have d3 : (d1 != r) = true := by simpa using h3
        have HF : Hid (cf = 5) := by show _ = _; rw [HCF.out, if_neg (by simp), if_neg (by simp), if_pos h3]
        clear HCF
        go_wp2_with fail
        go_ret
        exact ⟨ret_int HF.out.symm, HBX.out _ HB_w3.out⟩
    · have d2 : (e2 != 0) = true := by simpa using h2
      have HF : Hid (cf = e2) := by show _ = _; rw [HCF.out, if_neg (by simp), if_pos h2]
      clear HCF
      go_wp2_with fail
      go_ret
      exact ⟨ret_int HF.out.symm, HBX.out _ HB_w3.out⟩
  · have d1' : (e1 != 0) = true := by simpa using h1
    have HF : Hid (cf = e1) := by show _ = _; rw [HCF.out, if_pos h1]
    clear HCF
    go_wp2_with fail
    go_ret
    exact ⟨ret_int HF.out.symm, HBX.out _ HB_w2.out⟩

set_option maxHeartbeats 4000000 in
set_option maxRecDepth 100000 in
theorem rfcheck_c (f : FactT) (hn : f.2.2.2.1.size ≤ 9223372036854775807) (hv : f.2.2.2.2.size < 1000000000) (w : World) : Calls Try.prog 128 #[factv f] w fun e w' => e = .returned (.int .i64 (chkF f)) ∧ Below w.heap.size w w' := by
  obtain ⟨⟨d1, d2⟩, ⟨t, c, r⟩, k, n, v⟩ := f
  simp only at hn hv
  have hcd := fun W => rcheck_c (d1, d2) W
  have hcs := fun W => rschk_c (t, c, r) W
  have HCF : Hid (chkF ((d1, d2), (t, c, r), k, n, v) = if chk (d1, d2) ≠ 0 then chk (d1, d2) else if chkS (t, c, r) ≠ 0 then chkS (t, c, r) else if d1 ≠ r then 5 else if k < 1 ∨ 4 < k then 1 else if nameOk n = false then 14 else valE k v) := rfl
  generalize chkF ((d1, d2), (t, c, r), k, n, v) = cf at *
  simp only [factv, stv, dotv] at hcd hcs ⊢
  generalize chk (d1, d2) = e1 at *
  generalize chkS (t, c, r) = e2 at *
  have HG : Hid (∀ X, Below (w.alloc (.cells #[.int .i64 d1, .int .i64 d2, .int .i64 t, .int .i64 c, .int .i64 r, .int .i64 k, .string n, .string v] 87)).heap.size (w.alloc (.cells #[.int .i64 d1, .int .i64 d2, .int .i64 t, .int .i64 c, .int .i64 r, .int .i64 k, .string n, .string v] 87)) X → X.cell? ⟨w.heap.size, 0, none⟩ = some (.int .i64 d1) ∧ X.cell? ⟨w.heap.size, 1, none⟩ = some (.int .i64 d2) ∧ X.cell? ⟨w.heap.size, 2, none⟩ = some (.int .i64 t) ∧ X.cell? ⟨w.heap.size, 3, none⟩ = some (.int .i64 c) ∧ X.cell? ⟨w.heap.size, 4, none⟩ = some (.int .i64 r) ∧ X.cell? ⟨w.heap.size, 5, none⟩ = some (.int .i64 k) ∧ X.cell? ⟨w.heap.size, 6, none⟩ = some (.string n) ∧ X.cell? ⟨w.heap.size, 7, none⟩ = some (.string v)) := fun X hX =>
    ⟨keepc hX (by simp), keepc hX (by simp), keepc hX (by simp), keepc hX (by simp), keepc hX (by simp), keepc hX (by simp), keepc hX (by simp), keepc hX (by simp)⟩
  have HBX : Hid (∀ X : World, Below (w.alloc (.cells #[.int .i64 d1, .int .i64 d2, .int .i64 t, .int .i64 c, .int .i64 r, .int .i64 k, .string n, .string v] 87)).heap.size (w.alloc (.cells #[.int .i64 d1, .int .i64 d2, .int .i64 t, .int .i64 c, .int .i64 r, .int .i64 k, .string n, .string v] 87)) X → Below w.heap.size w X) := fun X hX => ((Below.refl w.heap.size w).alloc (Nat.le_refl _) _).trans (hX.mono (by simp))
  go_enter Try.func128, Try.ntmps128
  go_wp2_with fail
  generalize hW : w.alloc (.cells #[.int .i64 d1, .int .i64 d2, .int .i64 t, .int .i64 c, .int .i64 r, .int .i64 k, .string n, .string v] 87) = w1 at *
  clear hW
  refine (hcd _).mono ?_
  rintro e w2 ⟨rfl, hb⟩
  have HB_w2 : Hid (Below w1.heap.size w1 w2) := hb
  clear hb
  obtain ⟨g0, g1, g2, g3, g4, g5, g6, g7⟩ := HG.out w2 HB_w2.out
  by_cases h1 : e1 = 0
  · subst h1
    go_wp2_with fail
    refine (hcs _).mono ?_
    rintro e w3 ⟨rfl, hb⟩
    have HB_w3 : Hid (Below w1.heap.size w1 w3) := HB_w2.out.trans (hb.mono HB_w2.out.size)
    clear hb
    clear g0 g1 g2 g3 g4 g5 g6 g7
    obtain ⟨g0, g1, g2, g3, g4, g5, g6, g7⟩ := HG.out w3 HB_w3.out
    by_cases h2 : e2 = 0
    · subst h2
      by_cases h3 : d1 = r
      · subst h3
        have d3 : (d1 != d1) = false := by simp
        by_cases h4 : k < 1
        · have d4 : decide (k < 1) = true := decide_eq_true h4
          have HF : Hid (cf = 1) := by show _ = _; rw [HCF.out, if_neg (by simp), if_neg (by simp), if_neg (by simp), if_pos (.inl h4)]
          clear HCF
          go_wp2_with fail
          go_ret
          exact ⟨ret_int HF.out.symm, HBX.out _ HB_w3.out⟩
        · have d4 : decide (k < 1) = false := decide_eq_false h4
          by_cases h5 : 4 < k
          · have d5 : decide (k > 4) = true := decide_eq_true h5
            have HF : Hid (cf = 1) := by show _ = _; rw [HCF.out, if_neg (by simp), if_neg (by simp), if_neg (by simp), if_pos (.inr h5)]
            clear HCF
            go_wp2_with fail
            go_ret
            exact ⟨ret_int HF.out.symm, HBX.out _ HB_w3.out⟩
          · have d5 : decide (k > 4) = false := decide_eq_false h5
            by_cases h6 : n.size < 1
            · have d6 : decide ((n.size : Int) < 1) = true := decide_eq_true (by omega)
              have HF : Hid (cf = 14) := by show _ = _; rw [HCF.out, if_neg (by simp), if_neg (by simp), if_neg (by simp), if_neg (by omega), if_pos (show nameOk n = false from decide_eq_false (by omega))]
              clear HCF
              go_wp2_with fail
              go_ret
              exact ⟨ret_int HF.out.symm, HBX.out _ HB_w3.out⟩
            · have d6 : decide ((n.size : Int) < 1) = false := decide_eq_false (by omega)
              by_cases h7 : 64 < n.size
              · have d7 : decide ((n.size : Int) > 64) = true := decide_eq_true (by omega)
                have HF : Hid (cf = 14) := by show _ = _; rw [HCF.out, if_neg (by simp), if_neg (by simp), if_neg (by simp), if_neg (by omega), if_pos (show nameOk n = false from decide_eq_false (by omega))]
                clear HCF
                go_wp2_with fail
                go_ret
                exact ⟨ret_int HF.out.symm, HBX.out _ HB_w3.out⟩
              · have d7 : decide ((n.size : Int) > 64) = false := decide_eq_false (by omega)
                have hk : k = 1 ∨ k = 2 ∨ k = 3 ∨ k = 4 := by omega
                rcases hk with rfl | rfl | rfl | rfl
                · by_cases h8 : 16384 < v.size
                  · have d8 : decide ((v.size : Int) > 16384) = true := decide_eq_true (by omega)
                    have HF : Hid (cf = 3) := by show _ = _; rw [HCF.out, if_neg (by simp), if_neg (by simp), if_neg (by simp), if_neg (by omega), if_neg (by unfold nameOk; rw [decide_eq_true (show n.size ≠ 0 ∧ n.size ≤ 64 by omega)]; simp)]; unfold valE; rw [if_pos rfl, if_pos h8]
                    clear HCF
                    go_wp2_with fail
                    go_ret
                    exact ⟨ret_int HF.out.symm, HBX.out _ HB_w3.out⟩
                  · have d8 : decide ((v.size : Int) > 16384) = false := decide_eq_false (by omega)
                    have hm := fun W => rmread_c v hv W
                    have HVE : Hid (valE 1 v = (readM v).2) := by show _ = _; unfold valE; rw [if_pos rfl, if_neg h8]
                    generalize readM v = q at *
                    obtain ⟨⟨q1, q2, q3⟩, q4⟩ := q
                    simp only [RetM] at hm HVE
                    go_wp2_with fail
                    refine (hm _).mono ?_
                    rintro e w5 ⟨⟨A, c2, rfl, _, _⟩, hb5⟩
                    have HB_w5 : Hid (Below w1.heap.size w1 (w5.alloc (.cells #[.int .i64 q1, .int .i64 q2, .slice A q3.length c2] 201))) := (HB_w3.out.trans (hb5.mono HB_w3.out.size)).alloc (Nat.le_trans HB_w3.out.size hb5.size) _
                    have HF : Hid (cf = q4) := by show _ = _; rw [HCF.out, if_neg (by simp), if_neg (by simp), if_neg (by simp), if_neg (by omega), if_neg (by unfold nameOk; rw [decide_eq_true (show n.size ≠ 0 ∧ n.size ≤ 64 by omega)]; simp), HVE.out]
                    clear HCF
                    go_wp2_with fail
                    go_ret
                    exact ⟨ret_int HF.out.symm, HBX.out _ HB_w5.out⟩
                · by_cases h8 : 256 < v.size
                  · have d8 : decide ((v.size : Int) > 256) = true := decide_eq_true (by omega)
                    have HF : Hid (cf = 3) := by show _ = _; rw [HCF.out, if_neg (by simp), if_neg (by simp), if_neg (by simp), if_neg (by omega), if_neg (by unfold nameOk; rw [decide_eq_true (show n.size ≠ 0 ∧ n.size ≤ 64 by omega)]; simp)]; unfold valE; rw [if_neg (by decide), if_pos rfl, if_pos h8]
                    clear HCF
                    go_wp2_with fail
                    go_ret
                    exact ⟨ret_int HF.out.symm, HBX.out _ HB_w3.out⟩
                  · have d8 : decide ((v.size : Int) > 256) = false := decide_eq_false (by omega)
                    have HF : Hid (cf = 0) := by show _ = _; rw [HCF.out, if_neg (by simp), if_neg (by simp), if_neg (by simp), if_neg (by omega), if_neg (by unfold nameOk; rw [decide_eq_true (show n.size ≠ 0 ∧ n.size ≤ 64 by omega)]; simp)]; unfold valE; rw [if_neg (by decide), if_pos rfl, if_neg h8]
                    clear HCF
                    go_wp2_with fail
                    go_ret
                    exact ⟨ret_int HF.out.symm, HBX.out _ HB_w3.out⟩
                · by_cases h8 : v.size < 1
                  · have d8 : decide ((v.size : Int) < 1) = true := decide_eq_true (by omega)
                    have HF : Hid (cf = 14) := by show _ = _; rw [HCF.out, if_neg (by simp), if_neg (by simp), if_neg (by simp), if_neg (by omega), if_neg (by unfold nameOk; rw [decide_eq_true (show n.size ≠ 0 ∧ n.size ≤ 64 by omega)]; simp)]; unfold valE; rw [if_neg (by decide), if_neg (by decide), if_pos rfl, if_neg (by unfold nameOk; rw [decide_eq_false (by omega)]; simp)]
                    clear HCF
                    go_wp2_with fail
                    go_ret
                    exact ⟨ret_int HF.out.symm, HBX.out _ HB_w3.out⟩
                  · have d8 : decide ((v.size : Int) < 1) = false := decide_eq_false (by omega)
                    by_cases h9 : 64 < v.size
                    · have d9 : decide ((v.size : Int) > 64) = true := decide_eq_true (by omega)
                      have HF : Hid (cf = 14) := by show _ = _; rw [HCF.out, if_neg (by simp), if_neg (by simp), if_neg (by simp), if_neg (by omega), if_neg (by unfold nameOk; rw [decide_eq_true (show n.size ≠ 0 ∧ n.size ≤ 64 by omega)]; simp)]; unfold valE; rw [if_neg (by decide), if_neg (by decide), if_pos rfl, if_neg (by unfold nameOk; rw [decide_eq_false (by omega)]; simp)]
                      clear HCF
                      go_wp2_with fail
                      go_ret
                      exact ⟨ret_int HF.out.symm, HBX.out _ HB_w3.out⟩
                    · have d9 : decide ((v.size : Int) > 64) = false := decide_eq_false (by omega)
                      have HF : Hid (cf = 0) := by show _ = _; rw [HCF.out, if_neg (by simp), if_neg (by simp), if_neg (by simp), if_neg (by omega), if_neg (by unfold nameOk; rw [decide_eq_true (show n.size ≠ 0 ∧ n.size ≤ 64 by omega)]; simp)]; unfold valE; rw [if_neg (by decide), if_neg (by decide), if_pos rfl, if_pos (show nameOk v = true from decide_eq_true (by omega))]
                      clear HCF
                      go_wp2_with fail
                      go_ret
                      exact ⟨ret_int HF.out.symm, HBX.out _ HB_w3.out⟩
                · by_cases h8 : v.size = 8
                  · have d8 : ((v.size : Int) != 8) = false := by rw [bne_eq_false_iff_eq]; omega
                    have HF : Hid (cf = 0) := by show _ = _; rw [HCF.out, if_neg (by simp), if_neg (by simp), if_neg (by simp), if_neg (by omega), if_neg (by unfold nameOk; rw [decide_eq_true (show n.size ≠ 0 ∧ n.size ≤ 64 by omega)]; simp)]; unfold valE; rw [if_neg (by decide), if_neg (by decide), if_neg (by decide), if_pos rfl, if_neg (by simpa using h8)]
                    clear HCF
                    go_wp2_with fail
                    go_ret
                    exact ⟨ret_int HF.out.symm, HBX.out _ HB_w3.out⟩
                  · have d8 : ((v.size : Int) != 8) = true := by rw [bne_iff_ne]; omega
                    have HF : Hid (cf = 5) := by show _ = _; rw [HCF.out, if_neg (by simp), if_neg (by simp), if_neg (by simp), if_neg (by omega), if_neg (by unfold nameOk; rw [decide_eq_true (show n.size ≠ 0 ∧ n.size ≤ 64 by omega)]; simp)]; unfold valE; rw [if_neg (by decide), if_neg (by decide), if_neg (by decide), if_pos rfl, if_pos h8]
                    clear HCF
                    go_wp2_with fail
                    go_ret
                    exact ⟨ret_int HF.out.symm, HBX.out _ HB_w3.out⟩
      · have d3 : (d1 != r) = true := by simpa using h3
        have HF : Hid (cf = 5) := by show _ = _; rw [HCF.out, if_neg (by simp), if_neg (by simp), if_pos h3]
        clear HCF
        go_wp2_with fail
        go_ret
        exact ⟨ret_int HF.out.symm, HBX.out _ HB_w3.out⟩
    · have d2 : (e2 != 0) = true := by simpa using h2
      have HF : Hid (cf = e2) := by show _ = _; rw [HCF.out, if_neg (by simp), if_pos h2]
      clear HCF
      go_wp2_with fail
      go_ret
      exact ⟨ret_int HF.out.symm, HBX.out _ HB_w3.out⟩
  · have d1' : (e1 != 0) = true := by simpa using h1
    have HF : Hid (cf = e1) := by show _ = _; rw [HCF.out, if_pos h1]
    clear HCF
    go_wp2_with fail
    go_ret
    exact ⟨ret_int HF.out.symm, HBX.out _ HB_w2.out⟩
end Go.Proofs.Ytmhkalalcmkpbaa

namespace Go.Proofs.Ytmhkalalcmkpbaa
open Go.RowKit
set_option linter.unusedVariables false
set_option linter.unusedSimpArgs false

/-- Which of two names comes first. -/
def ltStr (a b : ByteArray) : Bool := Op.bytesLess a.toList b.toList
def cmpStr (a b : ByteArray) : Int := if ltStr a b = true then -1 else if ltStr b a = true then 1 else 0

theorem binOp_string_gtr (t : TypeId) (a b : ByteArray) : binOp .gtr t (.string a) (.string b) = pure (.bool (!(Op.bytesLess a.toList b.toList) && !(a.toList == b.toList))) := by
  simp [binOp, Op.stringOp]

theorem bytesLess_irrefl : ∀ l, Op.bytesLess l l = false
  | [] => rfl
  | a :: x => by simp [Op.bytesLess, bytesLess_irrefl x]
theorem bytesLess_trans : ∀ a b c, Op.bytesLess a b = true → Op.bytesLess b c = true → Op.bytesLess a c = true
  | _, _, [] => by intro _ h; simp [Op.bytesLess] at h
  | _, [], _ :: _ => by intro h; simp [Op.bytesLess] at h
  | [], _ :: _, _ :: _ => by intro _ _; simp [Op.bytesLess]
  | a :: x, b :: y, c :: z => by
    intro h1 h2
    simp only [Op.bytesLess, Bool.or_eq_true, Bool.and_eq_true, decide_eq_true_eq, beq_iff_eq] at h1 h2 ⊢
    rcases h1 with h1 | ⟨rfl, h1⟩
    · rcases h2 with h2 | ⟨rfl, h2⟩
      · exact .inl (UInt8.lt_trans h1 h2)
      · exact .inl h1
    · rcases h2 with h2 | ⟨rfl, h2⟩
      · exact .inl h2
      · exact .inr ⟨rfl, bytesLess_trans _ _ _ h1 h2⟩
theorem bytesLess_total : ∀ a b, Op.bytesLess a b = false → Op.bytesLess b a = false → a = b
  | [], [] => fun _ _ => rfl
  | _ :: _, [] => by intro _ h; simp [Op.bytesLess] at h
  | [], _ :: _ => by intro h; simp [Op.bytesLess] at h
  | a :: x, b :: y => by
    intro h1 h2
    simp only [Op.bytesLess, Bool.or_eq_false_iff, decide_eq_false_iff_not, Bool.and_eq_false_iff] at h1 h2
    have hab : a = b := UInt8.le_antisymm (UInt8.not_lt.1 h2.1) (UInt8.not_lt.1 h1.1)
    subst hab
    simp at h1 h2
    rw [bytesLess_total x y h1 h2]

theorem toList_inj {a b : ByteArray} (h : a.toList = b.toList) : a = b := by
  rw [ByteArray.toList_eq, ByteArray.toList_eq] at h
  cases a; cases b
  simp only [ByteArray.mk.injEq]
  exact Array.toList_inj.1 h

theorem stoStr : STO ltStr where
  irrefl a := bytesLess_irrefl _
  trans a b c := bytesLess_trans _ _ _
  total a b h1 h2 := toList_inj (bytesLess_total _ _ h1 h2)

theorem gtrStr (a b : ByteArray) : (!(Op.bytesLess a.toList b.toList) && !(a.toList == b.toList)) = ltStr b a := by
  unfold ltStr
  cases h : Op.bytesLess a.toList b.toList with
  | true =>
    cases h2 : Op.bytesLess b.toList a.toList with
    | false => rfl
    | true => have := bytesLess_trans _ _ _ h h2; rw [bytesLess_irrefl] at this; cases this
  | false =>
    cases h2 : Op.bytesLess b.toList a.toList with
    | false => have := bytesLess_total _ _ h h2; simp [this]
    | true =>
      have : ¬ a.toList = b.toList := fun e => by rw [e, bytesLess_irrefl] at h2; cases h2
      simpa using this

theorem snan_c (x : ByteArray) (w : World) : Calls Try.prog 168 #[.string x] w fun e w' => e = .returned (.bool false) ∧ w = w' := by
  go_enter Try.func168, Try.ntmps168
  go_wp2
  go_ret
  exact ⟨by simp, rfl⟩

set_option maxRecDepth 100000 in
theorem scmp_c (x y : ByteArray) (w : World) : Calls Try.prog 144 #[.string x, .string y] w fun e w' => e = .returned (.int .i64 (cmpStr x y)) ∧ w = w' := by
  have hg := binOp_string_gtr
  have hr : cmpStr x y = if ltStr x y = true then -1 else if ltStr y x = true then 1 else 0 := rfl
  rw [hr]; clear hr
  have h1 : ∀ t, binOp .lss t (.string x) (.string y) = pure (.bool (ltStr x y)) := fun t => binOp_string_lss t x y
  have h2 : ∀ t, binOp .gtr t (.string x) (.string y) = pure (.bool (ltStr y x)) := fun t => by rw [binOp_string_gtr, gtrStr]
  clear hg
  generalize ltStr x y = p at *
  generalize ltStr y x = q at *
  cases p <;> cases q <;>
  · go_enter Try.func144, Try.ntmps144
    go_wp2_with (go_at_call 168; refine (snan_c _ _).mono ?_; rintro e w' ⟨rfl, rfl⟩)
    go_ret
    exact ⟨rfl, rfl⟩

end Go.Proofs.Ytmhkalalcmkpbaa

namespace Go.Proofs.Ytmhkalalcmkpbaa
open Go.RowKit
set_option linter.unusedVariables false
set_option linter.unusedSimpArgs false

/-- What by answers of an order. -/
def byL (p q : Bool) : Int := if p = true then -1 else if q = true then 1 else 0
theorem cmpI_zero (a b : Int) : cmpI a b = 0 ↔ a = b := by
  unfold cmpI; split <;> (try split) <;> constructor <;> intro h <;> omega
theorem ltS_iff (a b : Int × Int × Int) : ltS a b = true ↔ a.1 < b.1 ∨ (a.1 = b.1 ∧ (a.2.1 < b.2.1 ∨ (a.2.1 = b.2.1 ∧ a.2.2 < b.2.2))) := by unfold ltS; simp
theorem stoS : STO ltS where
  irrefl a := by
    rw [Bool.eq_false_iff]; intro h; rw [ltS_iff] at h; omega
  trans a b c h1 h2 := by
    rw [ltS_iff] at *; omega
  total a b h1 h2 := by
    rw [Bool.eq_false_iff] at h1 h2
    rw [ne_eq, ltS_iff] at h1 h2
    obtain ⟨a1, a2, a3⟩ := a
    obtain ⟨b1, b2, b3⟩ := b
    simp only at h1 h2
    have e1 : a1 = b1 := by omega
    have e2 : a2 = b2 := by omega
    have e3 : a3 = b3 := by omega
    rw [e1, e2, e3]

/-- A comparison as Go's packages know it: below zero, zero, above. -/
structure Cmps {α : Type} (c : α → α → Int) : Prop where
  zero : ∀ a b, c a b = 0 ↔ a = b
  flip : ∀ a b, c a b < 0 ↔ 0 < c b a
  trans : ∀ a b d, c a b < 0 → c b d < 0 → c a d < 0

theorem Cmps.sto {α : Type} {c : α → α → Int} (h : Cmps c) : STO (fun a b => decide (c a b < 0)) where
  irrefl a := by
    have := (h.zero a a).2 rfl
    simp [this]
  trans a b d h1 h2 := by
    simp only [decide_eq_true_eq] at *
    exact h.trans a b d h1 h2
  total a b h1 h2 := by
    simp only [decide_eq_false_iff_not] at *
    have := h.flip b a
    exact (h.zero a b).1 (by omega)

theorem Cmps.lex {α β γ : Type} {c : α → α → Int} {d : β → β → Int} (hc : Cmps c) (hd : Cmps d) (f : γ → α) (g : γ → β)
    (hi : ∀ x y, f x = f y → g x = g y → x = y) : Cmps (fun x y => orI (c (f x) (f y)) (d (g x) (g y))) where
  zero x y := by
    have h1 := hc.zero (f x) (f y)
    have h2 := hd.zero (g x) (g y)
    unfold orI
    constructor
    · intro h
      split at h
      · rename_i h0; exact hi x y (h1.1 h0) (h2.1 h)
      · rename_i h0; exact absurd h h0
    · intro h
      subst h
      rw [if_pos (h1.2 rfl)]
      exact h2.2 rfl
  flip x y := by
    have h1 := hc.flip (f x) (f y)
    have h1' := hc.flip (f y) (f x)
    have h2 := hd.flip (g x) (g y)
    unfold orI
    split <;> split <;> first | exact h2 | omega
  trans x y z := by
    have a1 := hc.zero (f x) (f y)
    have a2 := hc.zero (f y) (f z)
    have a3 := hc.zero (f x) (f z)
    have b := hc.trans (f x) (f y) (f z)
    have e := hd.trans (g x) (g y) (g z)
    unfold orI
    intro h1 h2
    split at h1 <;> split at h2
    · rename_i p q
      rw [if_pos (a3.2 ((a1.1 p).trans (a2.1 q)))]
      exact e h1 h2
    · rename_i p q
      have := a1.1 p
      rw [← this] at h2 q
      rw [if_neg q]; exact h2
    · rename_i p q
      have := a2.1 q
      rw [this] at h1 p
      rw [if_neg p]; exact h1
    · have := b h1 h2
      rw [if_neg (by omega)]; exact this

theorem cmpsI : Cmps cmpI where
  zero := cmpI_zero
  flip a b := by unfold cmpI; split <;> split <;> (try split) <;> omega
  trans a b d := by unfold cmpI; intro h1 h2; (repeat' split at h1) <;> (repeat' split at h2) <;> (try omega) <;> (repeat' split) <;> omega

theorem cmps_of_sto {α : Type} {lt : α → α → Bool} (h : STO lt) : Cmps (fun a b => byL (lt a b) (lt b a)) where
  zero a b := by
    unfold byL
    constructor
    · intro e
      cases h1 : lt a b with
      | true => rw [h1] at e; simp at e
      | false =>
        cases h2 : lt b a with
        | true => rw [h1, h2] at e; simp at e
        | false => exact h.total a b h1 h2
    · intro e; subst e; simp [h.irrefl a]
  flip a b := by
    unfold byL
    cases h1 : lt a b with
    | true => simp [h.asymm h1]
    | false => cases h2 : lt b a <;> simp
  trans a b d h1 h2 := by
    have g : ∀ a b, byL (lt a b) (lt b a) < 0 → lt a b = true := fun a b e => by
      cases h1 : lt a b with
      | true => rfl
      | false => rw [h1] at e; unfold byL at e; cases h2 : lt b a <;> rw [h2] at e <;> simp at e
    have := h.trans a b d (g a b h1) (g b d h2)
    simp [byL, this]

def byD (a b : Int × Int) : Int := byL (ltD a b) (ltD b a)
def byW (a b : Int × Int × Int) : Int := byL (ltS a b) (ltS b a)
def ordF (x y : FactT) : Int := orI (cmpStr x.2.2.2.1 y.2.2.2.1) (orI (cmpI x.2.2.1 y.2.2.1) (orI (byD x.1 y.1) (orI (byW x.2.1 y.2.1) (cmpStr x.2.2.2.2 y.2.2.2.2))))
def ltF (x y : FactT) : Bool := decide (ordF x y < 0)

theorem cmpsS : Cmps cmpStr := cmps_of_sto stoStr
theorem cmpsF : Cmps ordF := by
  have h4 : Cmps (fun (x y : (Int × Int × Int) × ByteArray) => orI (byW x.1 y.1) (cmpStr x.2 y.2)) := (cmps_of_sto stoS).lex cmpsS Prod.fst Prod.snd (fun x y h1 h2 => Prod.ext h1 h2)
  have h3 : Cmps (fun (x y : (Int × Int) × (Int × Int × Int) × ByteArray) => orI (byD x.1 y.1) (orI (byW x.2.1 y.2.1) (cmpStr x.2.2 y.2.2))) := (cmps_of_sto stoD).lex h4 Prod.fst Prod.snd (fun x y h1 h2 => Prod.ext h1 h2)
  have h2 : Cmps (fun (x y : Int × (Int × Int) × (Int × Int × Int) × ByteArray) => orI (cmpI x.1 y.1) (orI (byD x.2.1 y.2.1) (orI (byW x.2.2.1 y.2.2.1) (cmpStr x.2.2.2 y.2.2.2)))) := cmpsI.lex h3 Prod.fst Prod.snd (fun x y h1 h2 => Prod.ext h1 h2)
  exact cmpsS.lex h2 (fun x : FactT => x.2.2.2.1) (fun x => (x.2.2.1, x.1, x.2.1, x.2.2.2.2)) (fun x y h1 h2 => by
    obtain ⟨x1, x2, x3, x4, x5⟩ := x
    obtain ⟨y1, y2, y3, y4, y5⟩ := y
    simp only [Prod.mk.injEq] at h1 h2 ⊢
    exact ⟨h2.2.1, h2.2.2.1, h2.1, h1, h2.2.2.2⟩)
theorem stoF : STO ltF := cmpsF.sto
end Go.Proofs.Ytmhkalalcmkpbaa
