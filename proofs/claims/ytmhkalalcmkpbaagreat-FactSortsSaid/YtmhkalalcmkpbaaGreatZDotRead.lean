/-
  DotMay2 DotPut DotRead
-/
import Derived.Test.YtmhkalalcmkpbaaGreatZDotApp
import Derived.Test.YtmhkalalcmkpbaaGreatZDotMay
import Derived.Test.YtmhkalalcmkpbaaGreatZDotPlain
import Derived.Test.YtmhkalalcmkpbaaGreatZDotRSort
import Derived.Test.YtmhkalalcmkpbaaGreatZTools
namespace Go.Proofs.YtmhkalalcmkpbaaGreat
open Go.RowKit
set_option linter.unusedVariables false
set_option linter.unusedSimpArgs false
attribute [local go_sem] eq_dot guard_dot

end Go.Proofs.YtmhkalalcmkpbaaGreat

namespace Go.Proofs.YtmhkalalcmkpbaaGreat
open Go.RowKit
set_option linter.unusedVariables false
set_option linter.unusedSimpArgs false
theorem ret_si2 {a b : ByteArray} {c d : Int} (h : a = b) (h' : c = d) : Ending.returned (.tuple #[.string a, .int .i64 c]) = .returned (.tuple #[.string b, .int .i64 d]) := by rw [h, h']

end Go.Proofs.YtmhkalalcmkpbaaGreat

namespace Go.Proofs.YtmhkalalcmkpbaaGreat
open Go.RowKit
set_option linter.unusedVariables false
set_option linter.unusedSimpArgs false

theorem Rdr.grown {w w' : World} {p g : Nat} {s : ByteArray} {e : Int} (h : Rdr w p s e) (hb : Below g w w') (hg : p < g) : Rdr w' p s e :=
  ⟨Nat.lt_of_lt_of_le h.lt hb.size, (hb.cell (p := ⟨p, 0, none⟩) hg).trans h.text, (hb.cell (p := ⟨p, 1, none⟩) hg).trans h.err, (hb.frozen (p := ⟨p, 0, none⟩) hg).trans h.free0, (hb.frozen (p := ⟨p, 1, none⟩) hg).trans h.free1⟩
theorem OwnD.lenV {w : World} {base : Nat} {v : Value} {l : List (Int × Int)} (h : OwnD w base v l) : lenV v = l.length :=
  own_lenV h
/-- What Read answers: the names and the error. -/
def RetR (w0 : Nat) (w' : World) (e : Ending) (l : List (Int × Int)) (er : Int) : Prop := ∃ A m c, e = .returned (.tuple #[.slice A m c, .int .i64 er]) ∧ m ≤ c ∧ RdD w' w'.heap.size A m l
/-- The same, and the slice is of the call's own. -/
def RetO (w0 : Nat) (w' : World) (e : Ending) (l : List (Int × Int)) (er : Int) : Prop := ∃ v, e = .returned (.tuple #[v, .int .i64 er]) ∧ OwnD w' w0 v l
theorem RetO.weak {w0 : Nat} {w' : World} {e : Ending} {l : List (Int × Int)} {er : Int} (h : RetO w0 w' e l er) : RetR w0 w' e l er := by
  obtain ⟨v, rfl, ho⟩ := h
  obtain ⟨A, c, rfl, hc, hr⟩ := OwnD.form ho
  exact ⟨A, _, c, rfl, hc, hr⟩
theorem rdL_step (n : Nat) (st : ByteArray × Int) (h : st.2 = 0) : rdL (n + 1) st = ((((rdN st).1 : Int), ((rdN (rdN st).2).1 : Int)) :: (rdL n (rdN (rdN st).2).2).1, (rdL n (rdN (rdN st).2).2).2) := by
  show (if st.2 ≠ 0 then _ else _) = _
  rw [if_neg (by simpa using h)]
theorem rdL_stop (n : Nat) (st : ByteArray × Int) (h : st.2 ≠ 0) : rdL n st = ([], st) := by
  cases n with
  | zero => rfl
  | succ n => show (if st.2 ≠ 0 then _ else _) = _
              rw [if_pos h]
/-- Where the reading stands: what is read, and what is to come. -/
def Stands (n : Nat) (st0 : ByteArray × Int) (acc : List (Int × Int)) (st : ByteArray × Int) : Prop :=
  acc.length ≤ n ∧ rdL n st0 = (acc ++ (rdL (n - acc.length) st).1, (rdL (n - acc.length) st).2)
theorem Stands.start (n : Nat) (st : ByteArray × Int) : Stands n st [] st := ⟨Nat.zero_le _, by simp⟩
theorem Stands.next {n : Nat} {st0 st : ByteArray × Int} {acc : List (Int × Int)} (h : Stands n st0 acc st) (h0 : st.2 = 0) (hl : acc.length < n) : Stands n st0 (acc ++ [(((rdN st).1 : Int), ((rdN (rdN st).2).1 : Int))]) (rdN (rdN st).2).2 := by
  have e : n - acc.length = (n - (acc.length + 1)) + 1 := by omega
  have h2 := h.2
  rw [e, rdL_step _ _ h0] at h2
  refine ⟨by simp; omega, ?_⟩
  rw [h2]; simp
theorem Stands.done {n : Nat} {st0 st : ByteArray × Int} {acc : List (Int × Int)} (h : Stands n st0 acc st) (hd : ¬ (acc.length < n ∧ st.2 = 0)) : rdL n st0 = (acc, st) := by
  have h2 := h.2
  by_cases hl : acc.length < n
  · rw [rdL_stop _ _ (fun g => hd ⟨hl, g⟩)] at h2
    simpa using h2
  · rw [show n - acc.length = 0 by have := h.1; omega] at h2
    simpa [rdL] using h2
theorem readD_long (s : ByteArray) (h : 4096 < (rdN (s, 0)).1) : readD s = ([], 3) := by unfold readD; rw [if_pos h]
theorem readD_done {s : ByteArray} {l : List (Int × Int)} {st : ByteArray × Int} (h : ¬ 4096 < (rdN (s, 0)).1) (hr : rdL (rdN (s, 0)).1 (rdN (s, 0)).2 = (l, st)) :
    readD s = if doneE st ≠ 0 then ([], doneE st) else if mayE l ≠ 0 then ([], mayE l) else (l, 0) := by
  unfold readD; rw [if_neg h, hr]

end Go.Proofs.YtmhkalalcmkpbaaGreat
