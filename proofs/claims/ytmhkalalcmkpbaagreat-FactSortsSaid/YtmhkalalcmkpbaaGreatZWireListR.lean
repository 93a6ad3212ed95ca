/-
  WireList WireList2 WireListR
-/
import Derived.Test.YtmhkalalcmkpbaaGreatZWireTextR
namespace Go.Proofs.YtmhkalalcmkpbaaGreat
open Go.RowKit
set_option linter.unusedVariables false
set_option linter.unusedSimpArgs false

/-- Texts out of bytes, one behind the other, till one fails. -/
def rdTs : Nat → ByteArray × Int → List ByteArray × (ByteArray × Int)
  | 0, st => ([], st)
  | n + 1, st => if st.2 ≠ 0 then ([], st) else ((rdT st).1 :: (rdTs n (rdT st).2).1, (rdTs n (rdT st).2).2)
theorem rdTs_step (n : Nat) (st : ByteArray × Int) (h : st.2 = 0) : rdTs (n + 1) st = ((rdT st).1 :: (rdTs n (rdT st).2).1, (rdTs n (rdT st).2).2) := by
  show (if st.2 ≠ 0 then _ else _) = _
  rw [if_neg (by simpa using h)]
theorem rdTs_stop (n : Nat) (st : ByteArray × Int) (h : st.2 ≠ 0) : rdTs n st = ([], st) := by
  cases n with
  | zero => rfl
  | succ n => show (if st.2 ≠ 0 then _ else _) = _
              rw [if_pos h]
def StandsT (n : Nat) (st0 : ByteArray × Int) (acc : List ByteArray) (st : ByteArray × Int) : Prop :=
  acc.length ≤ n ∧ rdTs n st0 = (acc ++ (rdTs (n - acc.length) st).1, (rdTs (n - acc.length) st).2)
theorem StandsT.start (n : Nat) (st : ByteArray × Int) : StandsT n st [] st := ⟨Nat.zero_le _, by simp⟩
theorem StandsT.next {n : Nat} {st0 st : ByteArray × Int} {acc : List ByteArray} (h : StandsT n st0 acc st) (h0 : st.2 = 0) (hl : acc.length < n) : StandsT n st0 (acc ++ [(rdT st).1]) (rdT st).2 := by
  have e : n - acc.length = (n - (acc.length + 1)) + 1 := by omega
  have h2 := h.2
  rw [e, rdTs_step _ _ h0] at h2
  refine ⟨by simp; omega, ?_⟩
  rw [h2]; simp
theorem StandsT.done {n : Nat} {st0 st : ByteArray × Int} {acc : List ByteArray} (h : StandsT n st0 acc st) (hd : ¬ (acc.length < n ∧ st.2 = 0)) : rdTs n st0 = (acc, st) := by
  have h2 := h.2
  by_cases hl : acc.length < n
  · rw [rdTs_stop _ _ (fun g => hd ⟨hl, g⟩)] at h2
    simpa using h2
  · rw [show n - acc.length = 0 by have := h.1; omega] at h2
    simpa [rdTs] using h2
/-- What a reader does for a list. -/
def rdLs (st : ByteArray × Int) : List ByteArray × (ByteArray × Int) :=
  if st.2 ≠ 0 then ([], st) else
  if (rdN st).2.2 ≠ 0 then ([], (st.1, (rdN st).2.2)) else
  if 4096 < (rdN st).1 then ([], (st.1, 3)) else
  if (rdTs (rdN st).1 (rdN st).2).2.2 ≠ 0 then ([], (st.1, (rdTs (rdN st).1 (rdN st).2).2.2)) else
  rdTs (rdN st).1 (rdN st).2
theorem rdTs_size : ∀ (n : Nat) (st : ByteArray × Int), (rdTs n st).2.1.size ≤ st.1.size := by
  intro n
  induction n with
  | zero => intro st; exact Nat.le_refl _
  | succ n ih =>
    intro st
    by_cases h : st.2 = 0
    · rw [rdTs_step _ _ h]; exact Nat.le_trans (ih _) (rdT_size st)
    · rw [rdTs_stop _ _ h]; exact Nat.le_refl _
theorem rdLs_size (st : ByteArray × Int) : (rdLs st).2.1.size ≤ st.1.size := by
  unfold rdLs
  split
  · exact Nat.le_refl _
  · split
    · exact Nat.le_refl _
    · split
      · exact Nat.le_refl _
      · split
        · exact Nat.le_refl _
        · exact Nat.le_trans (rdTs_size _ _) (rdN_size st)
theorem rdTs_len : ∀ (n : Nat) (st : ByteArray × Int), (rdTs n st).1.length ≤ n := by
  intro n
  induction n with
  | zero => intro st; simp [rdTs]
  | succ n ih =>
    intro st
    by_cases h : st.2 = 0
    · rw [rdTs_step _ _ h]; have := ih (rdT st).2; simp; omega
    · rw [rdTs_stop _ _ h]; simp
theorem rdLs_len (st : ByteArray × Int) : (rdLs st).1.length ≤ 4096 := by
  unfold rdLs
  split
  · simp
  · split
    · simp
    · split
      · simp
      · split
        · simp
        · have := rdTs_len (rdN st).1 (rdN st).2; omega
theorem textR_err (s : ByteArray) (h : (textR s).2.2 ≠ 0) : (textR s).1 = ⟨#[]⟩ ∧ (textR s).2.1 = 0 := by
  unfold textR at h ⊢
  split
  · exact ⟨rfl, rfl⟩
  · split
    · exact ⟨rfl, rfl⟩
    · split
      · exact ⟨rfl, rfl⟩
      · rename_i a b c; rw [if_neg a, if_neg b, if_neg c] at h; exact absurd rfl h
theorem ext_ext (s : ByteArray) (a b : Nat) (h : a ≤ s.size) : (s.extract a s.size).extract b (s.extract a s.size).size = s.extract (a + b) s.size := by
  refine ba_ext ?_
  rw [ext_data, ext_data, ext_data, List.drop_drop]
/-- A text out of what is left from a place on. -/
theorem rdT_at (s : ByteArray) (k : Nat) (hk : k ≤ s.size) : rdT (s.extract k s.size, 0) = ((textR (s.extract k s.size)).1, (s.extract (k + (textR (s.extract k s.size)).2.1) s.size, (textR (s.extract k s.size)).2.2)) ∧ k + (textR (s.extract k s.size)).2.1 ≤ s.size := by
  have hz : (s.extract k s.size).size = s.size - k := by rw [ByteArray.size_extract]; omega
  by_cases h : (textR (s.extract k s.size)).2.2 = 0
  · have := textR_le _ h
    refine ⟨?_, by omega⟩
    unfold rdT
    rw [if_neg (by simp), if_neg (by simpa using h), h]
    show (_, (s.extract k s.size).extract _ (s.extract k s.size).size, (0 : Int)) = _
    rw [ext_ext s k _ hk]
  · obtain ⟨h1, h2⟩ := textR_err _ h
    refine ⟨?_, by omega⟩
    unfold rdT
    rw [if_neg (by simp), if_pos h, h1, h2, Nat.add_zero]

/-- A slice of texts that reads as l; one of the call's own. -/
abbrev RdS (w : World) (B : Nat) (A : Option Addr) (n : Nat) (l : List ByteArray) : Prop := Reads w B 1 A n (l.map Value.string)
abbrev OwnS (w : World) (base : Nat) (v : Value) (l : List ByteArray) : Prop := w.ownsRow base 9 1 v l.length (l.map Value.string)
theorem infoStr : (Tryz.prog.info? 9).map (fun i => (i.zero, i.size, i.bytes)) = some (some (.string ⟨#[]⟩), 1, 16) := by kernel_rfl
theorem sliceStr : Tryz.prog.underlying 67 = some (.slice 9) := by kernel_rfl
theorem OwnS.nil (w : World) (base : Nat) : OwnS w base (.slice none 0 0) [] := World.ownsRow_nil _ _ _ _
theorem RdS.len {w : World} {B : Nat} {A : Option Addr} {n : Nat} {l : List ByteArray} (h : RdS w B A n l) : l.length = n := by
  have := h.1; simpa using this
theorem OwnS.form {w : World} {base : Nat} {v : Value} {l : List ByteArray} (h : OwnS w base v l) : ∃ A c, v = .slice A l.length c ∧ l.length ≤ c ∧ RdS w w.heap.size A l.length l := by
  rcases h.2 with ⟨hv, hx⟩ | ⟨g, cap, cur, hv, _, _, hnc, _⟩
  · have hl : l = [] := List.eq_nil_of_length_eq_zero hx
    subst hl
    exact ⟨none, 0, hv, by simp, Reads.none_⟩
  · refine ⟨some ⟨g, 0, none⟩, cap, hv, hnc, ?_⟩
    subst hv
    exact Reads.of_own h
theorem OwnS.lenV {w : World} {base : Nat} {v : Value} {l : List ByteArray} (h : OwnS w base v l) : lenV v = l.length := own_lenV h
/-- append of one text. -/
theorem app_str {W : World} {base : Nat} {v : Value} {xs : List ByteArray} (t : ByteArray) (hown : OwnS W base v xs) (hn : xs.length < 999999999) (hb : base ≤ W.heap.size)
    {ops : Array Oper} {rest : List Oper} {o : Oper} {a : Act} {Q : Exit → Act → World → Prop} (hgd : o.guard = none) (s y : Operand)
    (ho : o.op = .call { callee := .builtin .append, args := #[s, y], argTypes := #[67, 67] })
    (hs : a.eval s = v) (g : Nat) (hg : W.heap.size = g) (hy : a.eval y = .slice (some ⟨g, 0, none⟩) 1 1)
    (h : ∀ v' w', OwnS w' base v' (xs ++ [t]) → Below base W w' → wpList Tryz.prog ops Q rest (a.put o.dst v') w') :
    wpList Tryz.prog ops Q (o :: rest) a (W.alloc (.cells #[.string t] 9)) := by
  subst hg
  refine app_one sliceStr infoStr rfl (by decide) (.string t) rfl hown (by omega) hb hgd s y ho hs hy ?_
  intro v' w' h1 h2
  refine h v' w' ?_ (below_app (Below.refl base W) hown (Nat.le_refl _) hb h2)
  show World.ownsRow _ _ _ _ _ _ _
  rw [List.length_append, List.length_singleton, List.map_append]
  exact h1
theorem sl3 {A A' : Option Addr} {n c : Nat} {b c2 b' c2' : Int} (h' : b = b') (h'' : c2 = c2') : Ending.returned (.tuple #[.slice A n c, .int .i64 b, .int .i64 c2]) = .returned (.tuple #[.slice A n c, .int .i64 b', .int .i64 c2']) := by rw [h', h'']

/-- What list answers: the texts, how many bytes, the error. -/
def listR (s : ByteArray) : List ByteArray × Nat × Int := if (rdLs (s, 0)).2.2 ≠ 0 then ([], 0, (rdLs (s, 0)).2.2) else ((rdLs (s, 0)).1, s.size - (rdLs (s, 0)).2.1.size, 0)
theorem numR_err (l : List UInt8) (h : (numR l).1 ≠ 0) : (numR l).2.1 = 0 ∧ (numR l).2.2 = 0 := by
  unfold numR at h ⊢
  split
  · exact ⟨rfl, rfl⟩
  · split
    · exact ⟨rfl, rfl⟩
    · split
      · exact ⟨rfl, rfl⟩
      · split
        · exact ⟨rfl, rfl⟩
        · rename_i a b c d; rw [if_neg a, if_neg b, if_neg c, if_neg d] at h; exact absurd rfl h

set_option maxHeartbeats 4000000 in
set_option maxRecDepth 100000 in
theorem list_c (s : ByteArray) (hs : s.size < 1000000000) (w : World) : Calls Tryz.prog 91 #[.string s] w fun e w' =>
    (∃ v, e = .returned (.tuple #[v, .int .i64 ((listR s).2.1 : Nat), .int .i64 (listR s).2.2]) ∧ OwnS w' w.heap.size v (listR s).1) ∧ Below w.heap.size w w' := by
  have hc := number_c s (by omega) w
  have hle := numR_le s
  have HERR : Hid ((numR s.data.toList).1 ≠ 0 → listR s = ([], 0, (numR s.data.toList).1)) := fun h => by
    have e1 : rdN (s, 0) = (0, (s, (numR s.data.toList).1)) := by unfold rdN; rw [if_neg (by simp), if_pos (by simpa using h)]
    have e2 : rdLs (s, 0) = ([], (s, (numR s.data.toList).1)) := by unfold rdLs; rw [if_neg (by simp), e1]; simp only; rw [if_pos h]
    unfold listR; rw [e2, if_pos h]
  have HNE := Lib.hid (numR_err s.data.toList)
  have HOK : Hid ((numR s.data.toList).1 = 0 → (4096 < (numR s.data.toList).2.1 → listR s = ([], 0, 3)) ∧ (¬ 4096 < (numR s.data.toList).2.1 → ∀ l st, rdTs (numR s.data.toList).2.1 (s.extract (numR s.data.toList).2.2 s.size, 0) = (l, st) →
      listR s = if st.2 ≠ 0 then ([], 0, st.2) else (l, s.size - st.1.size, 0))) := fun h => by
    have e1 : rdN (s, 0) = ((numR s.data.toList).2.1, (s.extract (numR s.data.toList).2.2 s.size, 0)) := by unfold rdN; rw [if_neg (by simp), if_neg (by simpa using h)]
    refine ⟨fun h1 => ?_, fun h1 l st hr => ?_⟩
    · have e2 : rdLs (s, 0) = ([], (s, 3)) := by unfold rdLs; rw [if_neg (by simp), e1]; simp only; rw [if_neg (by simp), if_pos h1]
      unfold listR; rw [e2]; rfl
    · by_cases h2 : st.2 = 0
      · have e2 : rdLs (s, 0) = (l, st) := by unfold rdLs; rw [if_neg (by simp), e1]; simp only; rw [if_neg (by simp), if_neg h1, hr, if_neg (by simpa using h2)]
        unfold listR; rw [e2, if_neg (by simpa using h2)]
      · have e2 : rdLs (s, 0) = ([], (s, st.2)) := by unfold rdLs; rw [if_neg (by simp), e1]; simp only; rw [if_neg (by simp), if_neg h1, hr, if_pos h2]
        unfold listR; rw [e2, if_pos h2, if_pos h2]
  generalize listR s = r at *
  obtain ⟨rl, rk, re⟩ := r
  generalize numR s.data.toList = nr at *
  obtain ⟨e, n, k⟩ := nr
  simp only at hc hle HERR HOK HNE ⊢
  by_cases he : e = 0
  · subst he
    obtain ⟨hk, hn⟩ := hle rfl
    have hoks := HOK.out rfl
    clear HERR HOK HNE hle
    by_cases hbig : 4096 < n
    · have HE := Lib.hid (hoks.1 hbig)
      have hd : decide ((n : Int) > 4096) = true := decide_eq_true (by omega)
      clear hoks
      go_enter Tryz.func91, Tryz.ntmps91
      go_wp2_with fail
      refine hc.mono ?_
      rintro e w' ⟨rfl, rfl⟩
      go_wp2_with fail
      go_loopw [6, 7, 8, 9, 10, 11] (fun v6 v7 v8 _ _ _ wr => v7 = .int .i64 3 ∧ v8 = .slice none 0 0 ∧ wr = w) (fun _ _ _ _ _ _ _ => 0)
      case atStart => exact ⟨rfl, rfl, rfl⟩
      case round =>
        obtain ⟨rfl, rfl, rfl⟩ := hrel
        go_wp2_with fail
        go_ret3
        have hE := HE.out
        injection hE with hE1 hE2
        injection hE2 with hE2 hE3
        subst hE1 hE2 hE3
        exact ⟨⟨_, rfl, OwnS.nil _ _⟩, Below.refl _ _⟩
    · have HD := Lib.hid (hoks.2 hbig)
      have hd : decide ((n : Int) > 4096) = false := decide_eq_false (by omega)
      clear hoks
      go_enter Tryz.func91, Tryz.ntmps91
      go_wp2_with fail
      refine hc.mono ?_
      rintro e w' ⟨rfl, rfl⟩
      go_wp2_with fail
      go_loopw [6, 7, 8, 9, 10, 11] (fun v6 v7 v8 _ _ _ wr => ∃ (acc : List ByteArray) (at' : Nat) (e2 : Int), v6 = .int .i64 at' ∧ at' ≤ s.size ∧ v7 = .int .i64 e2 ∧ Hid (OwnS wr w.heap.size v8 acc) ∧ Hid (Below w.heap.size w wr) ∧ Hid (StandsT n (s.extract k s.size, 0) acc (s.extract at' s.size, e2))) (fun _ _ v8 _ _ _ _ => n - lenV v8)
      case atStart => exact ⟨[], k, 0, rfl, hk, rfl, World.ownsRow_nil _ _ _ _, Below.refl _ _, StandsT.start _ _⟩
      case round =>
        obtain ⟨acc, at', e2, rfl, hat, rfl, HO, HB, HS⟩ := hrel
        obtain ⟨Ao, co, rfl, hco, hro⟩ := OwnS.form HO.out
        have HRO := Lib.hid hro
        have HCO := Lib.hid hco
        clear hro hco
        have hat2 : (0 : Int) ≤ (at' : Int) ∧ (at' : Int) ≤ (s.size : Int) := by omega
        by_cases he : e2 = 0
        · subst he
          by_cases hlt : acc.length < n
          · have hd3 : decide ((acc.length : Int) < (n : Int)) = true := decide_eq_true (by omega)
            have hn4 : n ≤ 4096 := by omega
            have HS2 := Lib.hid (HS.out.next rfl hlt)
            have hrd := rdT_at s at' hat
            have htx := fun W => text_c (s.extract at' s.size) (by have := extract_size s at'; omega) W
            rw [hrd.1] at HS2
            have hle2 := hrd.2
            clear hrd HS HRO HCO HD
            generalize textR (s.extract at' s.size) = tr at *
            obtain ⟨t1, k1, f1⟩ := tr
            simp only at htx HS2 hle2
            go_wp2_with fail
            refine (htx _).mono ?_
            rintro e w3 ⟨rfl, rfl⟩
            go_wp2_with (at_builtin; refine app_str t1 HO.out (by omega) HB.out.size rfl _ _ rfl rfl _ rfl rfl ?_; intro v5 w5 ho5 hb5)
            have HO5 := Lib.hid ho5
            have HB5 : Hid (Below w.heap.size w w5) := HB.out.trans hb5
            have hlen5 := OwnS.lenV ho5
            rw [List.length_append, List.length_singleton] at hlen5
            have HL5 := Lib.hid hlen5
            clear ho5 hb5 hlen5
            go_roundw
            case rel => exact ⟨_, at' + k1, f1, by go_num, hle2, rfl, HO5, HB5, HS2⟩
            case measure => (rw [HL5.out]; simp only [lenV]; omega)
          · have hd3 : decide ((acc.length : Int) < (n : Int)) = false := decide_eq_false (by omega)
            have HE : Hid ((rl, rk, re) = (acc, s.size - (s.extract at' s.size).size, 0)) := by
              show _ = _
              have := HD.out _ _ (HS.out.done (by simp only; omega))
              rwa [if_neg (by simp)] at this
            clear HD HS
            go_wp2_with fail
            go_ret3
            have hE := HE.out
            injection hE with hE1 hE2
            injection hE2 with hE2 hE3
            subst hE1 hE3
            refine ⟨⟨_, sl3 (A' := none) ?_ rfl, HO.out⟩, HB.out⟩
            rw [hE2, ByteArray.size_extract]; omega
        · have heb : (e2 == 0) = false := by simpa using he
          have heb2 : (e2 != 0) = true := by simpa using he
          have HE : Hid ((rl, rk, re) = ([], 0, e2)) := by
            show _ = _
            have := HD.out _ _ (HS.out.done (by simp only; omega))
            rwa [if_pos he] at this
          clear HD HS
          go_wp2_with fail
          go_ret3
          have hE := HE.out
          injection hE with hE1 hE2
          injection hE2 with hE2 hE3
          subst hE1 hE2 hE3
          exact ⟨⟨_, rfl, OwnS.nil _ _⟩, HB.out⟩
  · obtain ⟨hn0, hk0⟩ := HNE.out he
    subst hn0 hk0
    have HE := Lib.hid (HERR.out he)
    have heb : (e == 0) = false := by simpa using he
    have heb2 : (e != 0) = true := by simpa using he
    clear HERR HOK HNE hle
    go_enter Tryz.func91, Tryz.ntmps91
    go_wp2_with fail
    refine hc.mono ?_
    rintro e w' ⟨rfl, rfl⟩
    go_wp2_with fail
    go_loopw [6, 7, 8, 9, 10, 11] (fun v6 v7 v8 _ _ _ wr => v7 = .int .i64 e ∧ v8 = .slice none 0 0 ∧ wr = w) (fun _ _ _ _ _ _ _ => 0)
    case atStart => exact ⟨rfl, rfl, rfl⟩
    case round =>
      obtain ⟨rfl, rfl, rfl⟩ := hrel
      go_wp2_with fail
      go_ret3
      have hE := HE.out
      injection hE with hE1 hE2
      injection hE2 with hE2 hE3
      subst hE1 hE2 hE3
      exact ⟨⟨_, rfl, OwnS.nil _ _⟩, Below.refl _ _⟩
end Go.Proofs.YtmhkalalcmkpbaaGreat

namespace Go.Proofs.YtmhkalalcmkpbaaGreat
open Go.RowKit
set_option linter.unusedVariables false
set_option linter.unusedSimpArgs false

def Suf (s r : ByteArray) : Prop := ∃ k, k ≤ s.size ∧ r = s.extract k s.size
theorem Suf.refl (s : ByteArray) : Suf s s := ⟨0, Nat.zero_le _, ba_ext (by rw [ext_data]; rfl)⟩
theorem Suf.trans {a b c : ByteArray} (h : Suf a b) (k : Suf b c) : Suf a c := by
  obtain ⟨x, hx, rfl⟩ := h
  obtain ⟨y, hy, rfl⟩ := k
  rw [ByteArray.size_extract] at hy
  exact ⟨x + y, by omega, ext_ext a x y hx⟩
theorem Suf.at_ {s r : ByteArray} (h : Suf s r) : r = s.extract (s.size - r.size) s.size ∧ s.size - r.size ≤ s.size := by
  obtain ⟨k, hk, rfl⟩ := h
  refine ⟨?_, by omega⟩
  have : s.size - (s.extract k s.size).size = k := by rw [ByteArray.size_extract]; omega
  rw [this]
theorem suf_ext (s : ByteArray) (k : Nat) : Suf s (s.extract k s.size) := by
  by_cases h : k ≤ s.size
  · exact ⟨k, h, rfl⟩
  · refine ⟨s.size, Nat.le_refl _, ba_ext ?_⟩
    rw [ext_data, ext_data, List.drop_of_length_le (by rw [size_data]; omega), List.drop_of_length_le (by rw [size_data]; exact Nat.le_refl _)]
theorem rdN_suf (st : ByteArray × Int) : Suf st.1 (rdN st).2.1 := by
  unfold rdN
  split
  · exact Suf.refl _
  · split
    · exact Suf.refl _
    · exact suf_ext _ _
theorem rdT_suf (st : ByteArray × Int) : Suf st.1 (rdT st).2.1 := by
  unfold rdT
  split
  · exact Suf.refl _
  · split
    · exact Suf.refl _
    · exact suf_ext _ _
theorem rdTs_suf : ∀ (n : Nat) (st : ByteArray × Int), Suf st.1 (rdTs n st).2.1 := by
  intro n
  induction n with
  | zero => intro st; exact Suf.refl _
  | succ n ih =>
    intro st
    by_cases h : st.2 = 0
    · rw [rdTs_step _ _ h]; exact (rdT_suf st).trans (ih _)
    · rw [rdTs_stop _ _ h]; exact Suf.refl _
theorem rdLs_suf (st : ByteArray × Int) : Suf st.1 (rdLs st).2.1 := by
  unfold rdLs
  split
  · exact Suf.refl _
  · split
    · exact Suf.refl _
    · split
      · exact Suf.refl _
      · split
        · exact Suf.refl _
        · exact (rdN_suf st).trans (rdTs_suf _ _)
theorem listR_facts (s : ByteArray) : (listR s).2.2 = (rdLs (s, 0)).2.2 ∧ ((listR s).2.2 = 0 → (listR s).1 = (rdLs (s, 0)).1 ∧ (listR s).2.1 ≤ s.size ∧ s.extract (listR s).2.1 s.size = (rdLs (s, 0)).2.1) ∧ ((listR s).2.2 ≠ 0 → rdLs (s, 0) = ([], (s, (listR s).2.2))) := by
  have hsuf := (rdLs_suf (s, 0)).at_
  simp only at hsuf
  by_cases h : (rdLs (s, 0)).2.2 = 0
  · have e : listR s = ((rdLs (s, 0)).1, s.size - (rdLs (s, 0)).2.1.size, 0) := by unfold listR; rw [if_neg (by simpa using h)]
    rw [e]
    exact ⟨h.symm, fun _ => ⟨rfl, hsuf.2, hsuf.1.symm⟩, fun g => absurd rfl g⟩
  · have e : listR s = ([], 0, (rdLs (s, 0)).2.2) := by unfold listR; rw [if_pos h]
    rw [e]
    refine ⟨rfl, fun g => absurd g h, fun _ => ?_⟩
    show rdLs (s, 0) = ([], (s, (rdLs (s, 0)).2.2))
    unfold rdLs at h ⊢
    rw [if_neg (by simp)] at h ⊢
    by_cases h1 : (rdN (s, 0)).2.2 = 0
    · rw [if_neg (by simpa using h1)] at h ⊢
      by_cases h2 : 4096 < (rdN (s, 0)).1
      · rw [if_pos h2]
      · rw [if_neg h2] at h ⊢
        by_cases h3 : (rdTs (rdN (s, 0)).1 (rdN (s, 0)).2).2.2 = 0
        · rw [if_neg (by simpa using h3)] at h; exact absurd h3 h
        · rw [if_pos h3]
    · rw [if_pos h1]
theorem grown_none {w w' : World} {r : Option Nat} (h : Below w.heap.size w w') : w.grownBy w' r := grown_of_below h r
theorem grown_setCell2 {w w' : World} {g : Nat} (h : w.grownBy w' (some g)) (o : Nat) (u : Value) : w.grownBy (w'.setCell ⟨g, o, none⟩ u) (some g) :=
  ⟨h.os, h.tape, h.output, by simpa [World.setCell] using h.size, fun i hi hne => (Below.heap_setCell w' ⟨g, o, none⟩ u i (by rintro rfl; exact hne rfl)).trans (h.block i hi hne)⟩
theorem grown_cell2 {w w' : World} {p : Nat} (h : Below w.heap.size w w') (o : Nat) (u : Value) : w.grownBy (w'.setCell ⟨p, o, none⟩ u) (some p) := grown_setCell2 (grown_of_below h (some p)) o u

set_option maxHeartbeats 1000000 in
set_option maxRecDepth 100000 in
theorem takenl_c (p : Nat) (s : ByteArray) (e : Int) (w : World) (h : Rdr w p s e) (hs : s.size < 1000000000) :
    Calls Tryz.prog 90 #[.pointer (some ⟨p, 0, none⟩), .func (.func 91) #[] #[]] w fun r w' =>
      (∃ v, r = .returned v ∧ OwnS w' w.heap.size v (rdLs (s, e)).1) ∧ Rdr w' p (rdLs (s, e)).2.1 (rdLs (s, e)).2.2 ∧ w.grownBy w' (some p) := by
  have h0 := h.text
  have h1 := h.err
  have HL := Lib.hid (listR_facts s)
  have HH := Lib.hid h
  have hc := list_c s hs w
  by_cases he : e = 0
  · subst he
    generalize rdLs (s, 0) = q at *
    obtain ⟨ql, qs, qe⟩ := q
    generalize listR s = r at *
    obtain ⟨rt, rk, re⟩ := r
    simp only at hc HL ⊢
    by_cases hr : re = 0
    · subst hr
      obtain ⟨hl1, hl2, hl3⟩ := HL.out.2.1 rfl
      have hl0 := HL.out.1
      have HQ := Lib.hid (And.intro hl0 (And.intro hl1 hl3))
      have hk : (0 : Int) ≤ (rk : Int) ∧ (rk : Int) ≤ (s.size : Int) := by omega
      clear HL hl0 hl1 hl3 h
      go_enter Tryz.func90, Tryz.ntmps90
      go_wp2_with fail
      refine hc.mono ?_
      rintro e w1 ⟨⟨v, rfl, ho⟩, hb⟩
      have hR := HH.out.grown hb HH.out.lt
      have g0 := hR.text
      have g1 := hR.err
      have f0 := hR.free0
      have f1 := hR.free1
      have HRR := Lib.hid hR
      have HO := Lib.hid ho
      have HBB := Lib.hid hb
      clear hb ho hR
      go_wp2_with fail
      go_ret
      obtain ⟨q0, q1, q2⟩ := HQ.out
      subst q0 q1
      refine ⟨⟨_, rfl, own_grown HO.out (grown_cell _ p 0 _) HH.out.lt⟩, ?_, grown_cell2 HBB.out _ _⟩
      rw [← q2]; exact HRR.out.set0 _
    · have hl := HL.out.2.2 hr
      have hrb : (re != 0) = true := by simpa using hr
      have HQ := Lib.hid hl
      clear HL hl h
      go_enter Tryz.func90, Tryz.ntmps90
      go_wp2_with fail
      refine hc.mono ?_
      rintro e w1 ⟨⟨v, rfl, ho⟩, hb⟩
      have hR := HH.out.grown hb HH.out.lt
      have g0 := hR.text
      have g1 := hR.err
      have f0 := hR.free0
      have f1 := hR.free1
      have HRR := Lib.hid hR
      have HBB := Lib.hid hb
      clear hb ho hR
      go_wp2_with fail
      go_ret
      have hq := HQ.out
      injection hq with q0 q1
      injection q1 with q1 q2
      subst q0 q1 q2
      exact ⟨⟨_, rfl, OwnS.nil _ _⟩, HRR.out.set1 _, grown_cell2 HBB.out _ _⟩
  · have heb : (e != 0) = true := by simpa using he
    have hq : rdLs (s, e) = ([], (s, e)) := by unfold rdLs; rw [if_pos he]
    rw [hq]
    clear hq HL
    go_enter Tryz.func90, Tryz.ntmps90
    go_wp2
    go_ret
    exact ⟨⟨_, rfl, OwnS.nil _ _⟩, HH.out, World.grownBy.refl _ _⟩
set_option maxRecDepth 100000 in
theorem rlist_read (p : Nat) (s : ByteArray) (e : Int) (w : World) (h : Rdr w p s e) (hs : s.size < 1000000000) :
    Calls Tryz.prog 66 #[.pointer (some ⟨p, 0, none⟩)] w fun r w' =>
      (∃ v, r = .returned v ∧ OwnS w' w.heap.size v (rdLs (s, e)).1) ∧ Rdr w' p (rdLs (s, e)).2.1 (rdLs (s, e)).2.2 ∧ w.grownBy w' (some p) := by
  have ht := takenl_c p s e w h hs
  clear h
  generalize rdLs (s, e) = r at *
  obtain ⟨n, s', e'⟩ := r
  go_enter Tryz.func66, Tryz.ntmps66
  go_wp2_with (go_at_call 90; refine ht.mono ?_; rintro e w' ⟨⟨v, rfl, ho⟩, hrd, hgr⟩)
  go_ret
  exact ⟨⟨_, rfl, ho⟩, hrd, hgr⟩
end Go.Proofs.YtmhkalalcmkpbaaGreat

namespace Go.Proofs.YtmhkalalcmkpbaaGreat
open Go.RowKit
set_option linter.unusedVariables false
set_option linter.unusedSimpArgs false

theorem rdLs_ref (s : ByteArray) (e : Int) (e2 : Int) (he : e2 = if (rdN (s, e)).2.2 ≠ 0 then (rdN (s, e)).2.2 else if 4096 < (rdN (s, e)).1 then 3 else 0) :
    rdLs (s, e) = if (rdTs (rdN (s, e)).1 ((rdN (s, e)).2.1, e2)).2.2 ≠ 0 then ([], (s, (rdTs (rdN (s, e)).1 ((rdN (s, e)).2.1, e2)).2.2)) else rdTs (rdN (s, e)).1 ((rdN (s, e)).2.1, e2) := by
  by_cases h0 : e = 0
  · subst h0
    unfold rdLs
    rw [if_neg (by simp)]
    by_cases h1 : (rdN (s, 0)).2.2 = 0
    · rw [if_neg (by simpa using h1)] at he
      rw [if_neg (by simpa using h1)]
      by_cases h2 : 4096 < (rdN (s, 0)).1
      · rw [if_pos h2] at he; subst he
        rw [if_pos h2, rdTs_stop _ _ (by simp)]
        simp
      · rw [if_neg h2] at he; subst he
        rw [if_neg h2]
        have : ((rdN (s, 0)).2.1, (0 : Int)) = (rdN (s, 0)).2 := Prod.ext rfl h1.symm
        rw [this]
    · rw [if_pos h1] at he; subst he
      rw [if_pos h1, rdTs_stop _ _ h1]
      simp only
      rw [if_pos h1]
  · have hn := rdN_err (s := s) h0
    rw [hn] at he ⊢
    simp only at he ⊢
    rw [if_pos h0] at he; subst he
    unfold rdLs
    rw [if_pos h0]
    show _ = if (rdTs 0 (s, e2)).2.2 ≠ 0 then _ else _
    rw [show rdTs 0 (s, e2) = ([], (s, e2)) from rfl, if_pos h0]
theorem res_L (a : Act) (w : World) (g : Nat) (s : ByteArray) (e : Int) (v : Value) (h1 : a.tmps.getD 2 undef = .pointer (some ⟨g, 0, none⟩)) (h2 : a.tmps.getD 3 undef = v)
    (c0 : w.cell? ⟨g, 0, none⟩ = some (.string s)) (c1 : w.cell? ⟨g, 1, none⟩ = some (.int .i64 e)) :
    (results Tryz.f50 a.tmps).run Tryz.prog w = .ok (.tuple #[.agg #[.string s, .int .i64 e], v]) w := by
  rw [results_cell_tmp (p := 2) (u := 3) (ty := 90) rfl, h1, h2]
  go_simp

set_option maxHeartbeats 4000000 in
set_option maxRecDepth 100000 in
theorem rrlist_c (s : ByteArray) (e : Int) (hs : s.size < 1000000000) (w : World) :
    Calls Tryz.prog 50 #[.agg #[.string s, .int .i64 e]] w fun r w' => (∃ v, r = .returned (.tuple #[.agg #[.string (rdLs (s, e)).2.1, .int .i64 (rdLs (s, e)).2.2], v]) ∧ OwnS w' w.heap.size v (rdLs (s, e)).1) ∧ Below w.heap.size w w' := by
  have hc := fun W => rrnum_c s e (by omega) W
  have hz1 := rdN_size (s, e)
  have hnz := rdN_zero (s, e)
  have HR := Lib.hid (rdLs_ref s e)
  simp only at hz1
  generalize rdLs (s, e) = r at *
  generalize rdN (s, e) = q at *
  obtain ⟨n, s1, e1⟩ := q
  simp only at hc hz1 HR hnz
  have HNZ := Lib.hid hnz
  clear hnz
  have HB0 : KB w ((w.alloc (.cells #[.string s, .int .i64 e] 90)).alloc (.cells #[.string ⟨#[]⟩, .int .i64 0] 90)) := (KB.alloc (.mk (Below.refl _ _)) _).alloc _
  go_enter Tryz.func50, Tryz.ntmps50
  go_wp2_with fail
  refine (hc _).mono ?_
  rintro r0 w1 ⟨rfl, hb⟩
  have g0 : w1.cell? ⟨w.heap.size, 0, none⟩ = some (.string s) := keepc hb (by go_simp)
  have HBX : Hid (Below (w.heap.size + 2) ((w.alloc (.cells #[.string s, .int .i64 e] 90)).alloc (.cells #[.string ⟨#[]⟩, .int .i64 0] 90)) w1) := hb.mono (by simp)
  have HG0 : Hid (∀ X, Below w1.heap.size w1 X → X.cell? ⟨w.heap.size, 0, none⟩ = some (.string s) ∧ X.cell? ⟨w.heap.size + 1, 0, none⟩ = some (.string ⟨#[]⟩) ∧ X.cell? ⟨w.heap.size + 1, 1, none⟩ = some (.int .i64 0) ∧
      X.frozen? ⟨w.heap.size + 1, 0, none⟩ = false ∧ X.frozen? ⟨w.heap.size + 1, 1, none⟩ = false) := fun X hX => by
    have hs2 := hb.size
    simp at hs2
    refine ⟨keepc hX (keepc hb (by go_simp)), keepc hX (keepc hb (by go_simp)), keepc hX (keepc hb (by go_simp)), ?_, ?_⟩
    · exact (hX.frozen (p := ⟨w.heap.size + 1, 0, none⟩) (by show w.heap.size + 1 < _; omega)).trans ((hb.frozen (p := ⟨w.heap.size + 1, 0, none⟩) (by simp)).trans (by go_simp))
    · exact (hX.frozen (p := ⟨w.heap.size + 1, 1, none⟩) (by show w.heap.size + 1 < _; omega)).trans ((hb.frozen (p := ⟨w.heap.size + 1, 1, none⟩) (by simp)).trans (by go_simp))
  have HKB := Lib.hid (KB.call hb HB0).out
  have HSZ : Hid (w.heap.size + 1 < w1.heap.size) := by
    have := hb.size
    show _ < _
    simp at this; omega
  clear hb HB0 hc g0 HBX
  by_cases he1 : e1 = 0
  · subst he1
    by_cases hbig : 4096 < n
    · have HE := Lib.hid (HR.out 3 (by simp [hbig]))
      have hd : decide ((n : Int) > 4096) = true := decide_eq_true (by omega)
      have hd2 : decide ((0 : Int) < (n : Int)) = true := decide_eq_true (by omega)
      have hd4 : 0 < n := by omega
      clear HR HNZ
      go_wp2_with fail
      have HR0 : Hid (Rdr (w1.alloc (.cells #[.string s1, .int .i64 3] 90)) w1.heap.size s1 (3)) := Rdr.make _ _ _ _
      have HB1 : Hid (Below w1.heap.size w1 (w1.alloc (.cells #[.string s1, .int .i64 3] 90))) := (Below.refl _ _).alloc (Nat.le_refl _) _
      generalize hW : w1.alloc (.cells #[.string s1, .int .i64 3] 90) = w2 at *
      have HW2 : Hid (w1.heap.size < w2.heap.size) := HR0.out.lt
      clear hW
      go_loopw [6, 7, 8, 9] (fun vo vi _ _ wr => vo = .slice none 0 0 ∧ vi = .int .i64 0 ∧ wr = w2) (fun _ _ _ _ _ => 0)
      case atStart => exact ⟨rfl, rfl, rfl⟩
      case round =>
        obtain ⟨rfl, rfl, rfl⟩ := hrel
        have hcell0 := HR0.out.text
        have hcell1 := HR0.out.err
        obtain ⟨x0, x1, x2, x3, x4⟩ := HG0.out wr HB1.out
        have hcl : ∀ u v, Below w.heap.size w ((wr.setCell ⟨w.heap.size + 1, 0, none⟩ u).setCell ⟨w.heap.size + 1, 1, none⟩ v) := fun u v => ((HKB.out.trans (HB1.out.mono (Nat.le_of_lt (Nat.lt_of_le_of_lt (Nat.le_succ _) HSZ.out)))).setCell (by simp) _).setCell (by simp) _
        have HCL := Lib.hid hcl
        have HF : Hid (r = ([], (s, (3)))) := by
          show _ = _
          rw [HE.out, rdTs_stop _ _ (by first | (show (3 : Int) ≠ 0; decide) | exact he1)]
          simp only
          rw [if_pos (by first | (show (3 : Int) ≠ 0; decide) | exact he1)]
        clear hcl HE
        go_wp2_with fail
        refine bodyPost_ret (res_L _ _ (w.heap.size + 1) s (3) (.slice none 0 0) rfl rfl ?_ ?_) rfl ?_
        · go_simp
        · go_simp
        · have hF := HF.out
          rw [hF]
          exact ⟨⟨_, rfl, OwnS.nil _ _⟩, HCL.out _ _⟩
    · have HE := Lib.hid (HR.out 0 (by simp [hbig]))
      have hd : decide ((n : Int) > 4096) = false := decide_eq_false (by omega)
      clear HR HNZ
      go_wp2_with fail
      have HR0 : Hid (Rdr (w1.alloc (.cells #[.string s1, .int .i64 0] 90)) w1.heap.size s1 (0)) := Rdr.make _ _ _ _
      have HB1 : Hid (Below w1.heap.size w1 (w1.alloc (.cells #[.string s1, .int .i64 0] 90))) := (Below.refl _ _).alloc (Nat.le_refl _) _
      generalize hW : w1.alloc (.cells #[.string s1, .int .i64 0] 90) = w2 at *
      have HW2 : Hid (w1.heap.size < w2.heap.size) := HR0.out.lt
      clear hW
      go_loopw [6, 7, 8, 9] (fun vo vi _ _ wr => ∃ (acc : List ByteArray) (s2 : ByteArray) (e2 : Int), vi = .int .i64 acc.length ∧ acc.length ≤ n ∧ Hid (OwnS wr w2.heap.size vo acc) ∧ Hid (Rdr wr w1.heap.size s2 e2) ∧ Hid (Below w1.heap.size w1 wr) ∧ Hid (StandsT n (s1, 0) acc (s2, e2)) ∧ Hid (w2.heap.size ≤ wr.heap.size) ∧ s2.size ≤ s1.size) (fun _ vi _ _ _ => n - (intOf vi).toNat)
      case atStart => exact ⟨[], s1, 0, rfl, Nat.zero_le _, OwnS.nil _ _, HR0, HB1, StandsT.start _ _, Nat.le_refl _, Nat.le_refl _⟩
      case round =>
        clear HR0 HB1
        obtain ⟨acc, s2, e2, rfl, hal, HO, HRD, HB, HS, HWW, hsz2⟩ := hrel
        obtain ⟨Ao, co, rfl, hco, hro⟩ := OwnS.form HO.out
        clear hro hco
        have hcell0 := HRD.out.text
        have hcell1 := HRD.out.err
        have hfr0 := HRD.out.free0
        have hfr1 := HRD.out.free1
        by_cases hgo : acc.length < n ∧ e2 = 0
        · obtain ⟨hlt, rfl⟩ := hgo
          have hd3 : decide ((acc.length : Int) < (n : Int)) = true := decide_eq_true (by omega)
          have hn4 : n ≤ 4096 := by omega
          have HS2 := Lib.hid (HS.out.next rfl hlt)
          have hn1 := rrtext_c s2 0 (by omega) wr
          have hz2 := rdT_size (s2, 0)
          simp only at hz2
          generalize rdT (s2, 0) = y at *
          obtain ⟨t1, s3, e3⟩ := y
          simp only at hn1 hz2 HS2
          clear HS HE
          go_wp2_with fail
          refine hn1.mono ?_
          rintro e w3 ⟨rfl, hb3⟩
          have hr3 : Rdr (w3.alloc (.cells #[.string s3, .int .i64 e3] 90)) w1.heap.size s2 0 := (HRD.out.grown hb3 HRD.out.lt).alloc _
          have HO3 := Lib.hid (own_grown (own_grown ((own_below HO.out hb3).alloc (.cells #[.string s3, .int .i64 e3] 90)) (grown_cell _ w1.heap.size 0 (.string s3)) HW2.out) (grown_cell _ w1.heap.size 1 (.int .i64 e3)) HW2.out)
          have HR3 := Lib.hid ((hr3.set0 s3).set1 e3)
          have HB3 : Hid (Below w1.heap.size w1 (((w3.alloc (.cells #[.string s3, .int .i64 e3] 90)).setCell ⟨w1.heap.size, 0, none⟩ (.string s3)).setCell ⟨w1.heap.size, 1, none⟩ (.int .i64 e3))) := (((HB.out.trans (hb3.mono HB.out.size)).alloc (Nat.le_trans HB.out.size hb3.size) _).setCell (Nat.le_refl _) _).setCell (Nat.le_refl _) _
          have HW3 : Hid (w2.heap.size ≤ (((w3.alloc (.cells #[.string s3, .int .i64 e3] 90)).setCell ⟨w1.heap.size, 0, none⟩ (.string s3)).setCell ⟨w1.heap.size, 1, none⟩ (.int .i64 e3)).heap.size) := by show _ ≤ _; have h1 := HWW.out; have h2 := hb3.size; simp [World.setCell]; omega
          have k0 := hr3.text
          have k1 := hr3.err
          have k2 := hr3.free0
          have k3 := hr3.free1
          clear hn1 hb3 hr3 hcell0 hcell1 hfr0 hfr1
          go_wp2_with (at_builtin; refine app_str t1 HO3.out (by omega) HW3.out rfl _ _ rfl rfl (w3.heap.size + 1) (by simp) rfl ?_; intro v5 w5 ho5 hb5)
          have HO5 := Lib.hid ho5
          have HR5 : Hid (Rdr w5 w1.heap.size s3 e3) := HR3.out.grown hb5 HW2.out
          have HB5 : Hid (Below w1.heap.size w1 w5) := HB3.out.trans (hb5.mono (Nat.le_of_lt HW2.out))
          have HW5 : Hid (w2.heap.size ≤ w5.heap.size) := Nat.le_trans HW3.out hb5.size
          clear ho5 hb5
          go_roundw
          case rel => exact ⟨_, s3, e3, by rw [List.length_append, List.length_singleton]; go_num, by rw [List.length_append, List.length_singleton]; exact hlt, HO5, HR5, HB5, HS2, HW5, by omega⟩
          case measure => simp [intOf]; omega
        · have HDN := Lib.hid (HS.out.done hgo)
          obtain ⟨x0, x1, x2, x3, x4⟩ := HG0.out wr HB.out
          have hcl : ∀ u v, Below w.heap.size w ((wr.setCell ⟨w.heap.size + 1, 0, none⟩ u).setCell ⟨w.heap.size + 1, 1, none⟩ v) := fun u v => ((HKB.out.trans (HB.out.mono (Nat.le_of_lt (Nat.lt_of_le_of_lt (Nat.le_succ _) HSZ.out)))).setCell (by simp) _).setCell (by simp) _
          have HCL := Lib.hid hcl
          have hcl2 : ∀ u v, OwnS ((wr.setCell ⟨w.heap.size + 1, 0, none⟩ u).setCell ⟨w.heap.size + 1, 1, none⟩ v) w.heap.size (.slice Ao acc.length co) acc := fun u v =>
            World.ownsRow.mono (own_grown (own_grown HO.out (grown_cell _ (w.heap.size + 1) 0 u) (Nat.lt_trans HSZ.out HW2.out)) (grown_cell _ (w.heap.size + 1) 1 v) (Nat.lt_trans HSZ.out HW2.out)) (by have := HSZ.out; have := HW2.out; omega)
          have HCL2 := Lib.hid hcl2
          clear hcl hcl2 HS
          by_cases he2 : e2 = 0
          · subst he2
            have hlt : ¬ acc.length < n := fun h => hgo ⟨h, rfl⟩
            have hd3 : decide ((acc.length : Int) < (n : Int)) = false := decide_eq_false (by omega)
            have HF : Hid (r = (acc, (s2, 0))) := by
              show _ = _
              rw [HE.out, HDN.out, if_neg (by simp)]
            clear HE HDN hgo
            go_wp2_with fail
            refine bodyPost_ret (res_L _ _ (w.heap.size + 1) s2 0 (.slice Ao acc.length co) rfl rfl ?_ ?_) rfl ?_
            · go_simp
            · go_simp
            · have hF := HF.out
              rw [hF]
              exact ⟨⟨_, rfl, HCL2.out _ _⟩, HCL.out _ _⟩
          · have heb2 : (e2 == 0) = false := by simpa using he2
            have heb3 : (e2 != 0) = true := by simpa using he2
            have HF : Hid (r = ([], (s, e2))) := by
              show _ = _
              rw [HE.out, HDN.out, if_pos he2]
            clear HE HDN hgo
            by_cases hlt : acc.length < n
            · have hd3 : decide ((acc.length : Int) < (n : Int)) = true := decide_eq_true (by omega)
              go_wp2_with fail
              refine bodyPost_ret (res_L _ _ (w.heap.size + 1) s e2 (.slice none 0 0) rfl rfl ?_ ?_) rfl ?_
              · go_simp
              · go_simp
              · have hF := HF.out
                rw [hF]
                exact ⟨⟨_, rfl, OwnS.nil _ _⟩, HCL.out _ _⟩
            · have hd3 : decide ((acc.length : Int) < (n : Int)) = false := decide_eq_false (by omega)
              go_wp2_with fail
              refine bodyPost_ret (res_L _ _ (w.heap.size + 1) s e2 (.slice none 0 0) rfl rfl ?_ ?_) rfl ?_
              · go_simp
              · go_simp
              · have hF := HF.out
                rw [hF]
                exact ⟨⟨_, rfl, OwnS.nil _ _⟩, HCL.out _ _⟩
  · have HE := Lib.hid (HR.out e1 (by simp [he1]))
    have hn0 := HNZ.out he1
    subst hn0
    have heb : (e1 == 0) = false := by simpa using he1
    clear HR HNZ
    go_wp2_with fail
    have HR0 : Hid (Rdr (w1.alloc (.cells #[.string s1, .int .i64 e1] 90)) w1.heap.size s1 (e1)) := Rdr.make _ _ _ _
    have HB1 : Hid (Below w1.heap.size w1 (w1.alloc (.cells #[.string s1, .int .i64 e1] 90))) := (Below.refl _ _).alloc (Nat.le_refl _) _
    generalize hW : w1.alloc (.cells #[.string s1, .int .i64 e1] 90) = w2 at *
    have HW2 : Hid (w1.heap.size < w2.heap.size) := HR0.out.lt
    clear hW
    go_loopw [6, 7, 8, 9] (fun vo vi _ _ wr => vo = .slice none 0 0 ∧ vi = .int .i64 0 ∧ wr = w2) (fun _ _ _ _ _ => 0)
    case atStart => exact ⟨rfl, rfl, rfl⟩
    case round =>
      obtain ⟨rfl, rfl, rfl⟩ := hrel
      have hcell0 := HR0.out.text
      have hcell1 := HR0.out.err
      obtain ⟨x0, x1, x2, x3, x4⟩ := HG0.out wr HB1.out
      have hcl : ∀ u v, Below w.heap.size w ((wr.setCell ⟨w.heap.size + 1, 0, none⟩ u).setCell ⟨w.heap.size + 1, 1, none⟩ v) := fun u v => ((HKB.out.trans (HB1.out.mono (Nat.le_of_lt (Nat.lt_of_le_of_lt (Nat.le_succ _) HSZ.out)))).setCell (by simp) _).setCell (by simp) _
      have HCL := Lib.hid hcl
      have HF : Hid (r = ([], (s, (e1)))) := by
        show _ = _
        rw [HE.out, rdTs_stop _ _ (by first | (show (3 : Int) ≠ 0; decide) | exact he1)]
        simp only
        rw [if_pos (by first | (show (3 : Int) ≠ 0; decide) | exact he1)]
      clear hcl HE
      go_wp2_with fail
      refine bodyPost_ret (res_L _ _ (w.heap.size + 1) s (e1) (.slice none 0 0) rfl rfl ?_ ?_) rfl ?_
      · go_simp
      · go_simp
      · have hF := HF.out
        rw [hF]
        exact ⟨⟨_, rfl, OwnS.nil _ _⟩, HCL.out _ _⟩
end Go.Proofs.YtmhkalalcmkpbaaGreat
