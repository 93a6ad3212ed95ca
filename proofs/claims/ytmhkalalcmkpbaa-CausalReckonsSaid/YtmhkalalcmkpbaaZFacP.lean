/-
  WireList WireList2 WireListR Hexa HexaR HexaR2 ChunkW ChunkR ChunkRR FactCheck CmpS FacP
-/
import Derived.Test.YtmhkalalcmkpbaaZDotCmp
import Derived.Test.YtmhkalalcmkpbaaZDotRSort
import Derived.Test.YtmhkalalcmkpbaaZOrd
import Derived.Test.YtmhkalalcmkpbaaZStampW
import Derived.Test.YtmhkalalcmkpbaaZWireTextR
import Derived.Laws.RangeString
import Derived.Laws.MakeOwn
import Derived.Deep.RegionHeld3
import Derived.Deep.DrawnRows
namespace Go.Proofs.Ytmhkalalcmkpbaa
open Go.RowKit
set_option linter.unusedVariables false
set_option linter.unusedSimpArgs false

/-- Texts out of bytes, one behind the other, till one fails. -/
def rdTs : Nat → ByteArray × Int → List ByteArray × (ByteArray × Int)
  | 0, st => ([], st)
  | n + 1, st => if st.2 ≠ 0 then ([], st) else ((rdT st).1 :: (rdTs n (rdT st).2).1, (rdTs n (rdT st).2).2)
theorem rdTs_step (n : Nat) (st : ByteArray × Int) (h : st.2 = 0) : rdTs (n + 1) st = ((rdT st).1 :: (rdTs n (rdT st).2).1, (rdTs n (rdT st).2).2) := by
  show (if st.2 ≠ 0 then _ else _) = _
  rw [if_neg (by simpa using h)]
theorem rdTs_stop (n : Nat) (st : ByteArray × Int) (h : st.2 ≠ 0) : rdTs n st = ([], st) := by
  cases n with
  | zero => rfl
  | succ n => show (if st.2 ≠ 0 then _ else _) = _
              rw [if_pos h]
def StandsT (n : Nat) (st0 : ByteArray × Int) (acc : List ByteArray) (st : ByteArray × Int) : Prop :=
  acc.length ≤ n ∧ rdTs n st0 = (acc ++ (rdTs (n - acc.length) st).1, (rdTs (n - acc.length) st).2)
theorem StandsT.start (n : Nat) (st : ByteArray × Int) : StandsT n st [] st := ⟨Nat.zero_le _, by simp⟩
theorem StandsT.next {n : Nat} {st0 st : ByteArray × Int} {acc : List ByteArray} (h : StandsT n st0 acc st) (h0 : st.2 = 0) (hl : acc.length < n) : StandsT n st0 (acc ++ [(rdT st).1]) (rdT st).2 := by
  have e : n - acc.length = (n - (acc.length + 1)) + 1 := by omega
  have h2 := h.2
  rw [e, rdTs_step _ _ h0] at h2
  refine ⟨by simp; omega, ?_⟩
  rw [h2]; simp
theorem StandsT.done {n : Nat} {st0 st : ByteArray × Int} {acc : List ByteArray} (h : StandsT n st0 acc st) (hd : ¬ (acc.length < n ∧ st.2 = 0)) : rdTs n st0 = (acc, st) := by
  have h2 := h.2
  by_cases hl : acc.length < n
  · rw [rdTs_stop _ _ (fun g => hd ⟨hl, g⟩)] at h2
    simpa using h2
  · rw [show n - acc.length = 0 by have := h.1; omega] at h2
    simpa [rdTs] using h2
theorem ext_ext (s : ByteArray) (a b : Nat) (h : a ≤ s.size) : (s.extract a s.size).extract b (s.extract a s.size).size = s.extract (a + b) s.size := by
  refine ba_ext ?_
  rw [ext_data, ext_data, ext_data, List.drop_drop]
/-- A slice of texts that reads as l; one of the call's own. -/
abbrev RdS (w : World) (B : Nat) (A : Option Addr) (n : Nat) (l : List ByteArray) : Prop := Reads w B 1 A n (l.map Value.string)
abbrev OwnS (w : World) (base : Nat) (v : Value) (l : List ByteArray) : Prop := w.ownsRow base 9 1 v l.length (l.map Value.string)
theorem OwnS.nil (w : World) (base : Nat) : OwnS w base (.slice none 0 0) [] := World.ownsRow_nil _ _ _ _
theorem RdS.len {w : World} {B : Nat} {A : Option Addr} {n : Nat} {l : List ByteArray} (h : RdS w B A n l) : l.length = n := by
  have := h.1; simpa using this
theorem OwnS.form {w : World} {base : Nat} {v : Value} {l : List ByteArray} (h : OwnS w base v l) : ∃ A c, v = .slice A l.length c ∧ l.length ≤ c ∧ RdS w w.heap.size A l.length l := by
  rcases h.2 with ⟨hv, hx⟩ | ⟨g, cap, cur, hv, _, _, hnc, _⟩
  · have hl : l = [] := List.eq_nil_of_length_eq_zero hx
    subst hl
    exact ⟨none, 0, hv, by simp, Reads.none_⟩
  · refine ⟨some ⟨g, 0, none⟩, cap, hv, hnc, ?_⟩
    subst hv
    exact Reads.of_own h
theorem OwnS.lenV {w : World} {base : Nat} {v : Value} {l : List ByteArray} (h : OwnS w base v l) : lenV v = l.length := own_lenV h
end Go.Proofs.Ytmhkalalcmkpbaa

namespace Go.Proofs.Ytmhkalalcmkpbaa
open Go.RowKit
set_option linter.unusedVariables false
set_option linter.unusedSimpArgs false

def Suf (s r : ByteArray) : Prop := ∃ k, k ≤ s.size ∧ r = s.extract k s.size
theorem Suf.refl (s : ByteArray) : Suf s s := ⟨0, Nat.zero_le _, ba_ext (by rw [ext_data]; rfl)⟩
theorem Suf.trans {a b c : ByteArray} (h : Suf a b) (k : Suf b c) : Suf a c := by
  obtain ⟨x, hx, rfl⟩ := h
  obtain ⟨y, hy, rfl⟩ := k
  rw [ByteArray.size_extract] at hy
  exact ⟨x + y, by omega, ext_ext a x y hx⟩
theorem Suf.at_ {s r : ByteArray} (h : Suf s r) : r = s.extract (s.size - r.size) s.size ∧ s.size - r.size ≤ s.size := by
  obtain ⟨k, hk, rfl⟩ := h
  refine ⟨?_, by omega⟩
  have : s.size - (s.extract k s.size).size = k := by rw [ByteArray.size_extract]; omega
  rw [this]
end Go.Proofs.Ytmhkalalcmkpbaa

namespace Go.Proofs.Ytmhkalalcmkpbaa
open Go.RowKit
set_option linter.unusedVariables false
set_option linter.unusedSimpArgs false

end Go.Proofs.Ytmhkalalcmkpbaa

namespace Go.Proofs.Ytmhkalalcmkpbaa
open Go.RowKit
set_option linter.unusedVariables false
set_option linter.unusedSimpArgs false

end Go.Proofs.Ytmhkalalcmkpbaa

namespace Go.Proofs.Ytmhkalalcmkpbaa
open Go.RowKit
set_option linter.unusedVariables false
set_option linter.unusedSimpArgs false

end Go.Proofs.Ytmhkalalcmkpbaa

namespace Go.Proofs.Ytmhkalalcmkpbaa
open Go.RowKit
set_option linter.unusedVariables false
set_option linter.unusedSimpArgs false

end Go.Proofs.Ytmhkalalcmkpbaa

namespace Go.Proofs.Ytmhkalalcmkpbaa
open Go.RowKit
set_option linter.unusedVariables false
set_option linter.unusedSimpArgs false

theorem RdS.get {w : World} {B : Nat} {A : Option Addr} {n k : Nat} {l : List ByteArray} (h : RdS w B A n l) (hk : k < n) : ∃ b off, A = some ⟨b, off, none⟩ ∧ b < B ∧ w.cell? ⟨b, off + k, none⟩ = some (.string (l.getD k ⟨#[]⟩)) := by
  have hl := RdS.len h
  obtain ⟨ad, e, hb, hc⟩ := h.2 (by omega)
  have c1 := hc k (.string (l.getD k ⟨#[]⟩)) (by simp [List.getD, show k < l.length by omega])
  obtain ⟨b, off, spot⟩ := ad
  have c0 := hc 0 (.string (l.getD 0 ⟨#[]⟩)) (by simp [List.getD, show 0 < l.length by omega])
  have hs : spot = none := by simpa [Addr.add] using World.cell?_spot c0
  subst hs
  rw [add_flat] at c1
  exact ⟨b, off, e, hb, c1⟩
end Go.Proofs.Ytmhkalalcmkpbaa

namespace Go.Proofs.Ytmhkalalcmkpbaa
open Go.RowKit
set_option linter.unusedVariables false
set_option linter.unusedSimpArgs false

end Go.Proofs.Ytmhkalalcmkpbaa

namespace Go.Proofs.Ytmhkalalcmkpbaa
open Go.RowKit
set_option linter.unusedVariables false
set_option linter.unusedSimpArgs false

end Go.Proofs.Ytmhkalalcmkpbaa

namespace Go.Proofs.Ytmhkalalcmkpbaa
open Go.RowKit
set_option linter.unusedVariables false
set_option linter.unusedSimpArgs false

/-- A fact: its dot, stamp, kind, name and value. -/
abbrev FactT := (Int × Int) × (Int × Int × Int) × Int × ByteArray × ByteArray
end Go.Proofs.Ytmhkalalcmkpbaa

namespace Go.Proofs.Ytmhkalalcmkpbaa
open Go.RowKit
set_option linter.unusedVariables false
set_option linter.unusedSimpArgs false

/-- Which of two names comes first. -/
def ltStr (a b : ByteArray) : Bool := Op.bytesLess a.toList b.toList
def cmpStr (a b : ByteArray) : Int := if ltStr a b = true then -1 else if ltStr b a = true then 1 else 0

theorem binOp_string_gtr (t : TypeId) (a b : ByteArray) : binOp .gtr t (.string a) (.string b) = pure (.bool (!(Op.bytesLess a.toList b.toList) && !(a.toList == b.toList))) := by
  simp [binOp, Op.stringOp]

theorem bytesLess_irrefl : ∀ l, Op.bytesLess l l = false
  | [] => rfl
  | a :: x => by simp [Op.bytesLess, bytesLess_irrefl x]
theorem bytesLess_trans : ∀ a b c, Op.bytesLess a b = true → Op.bytesLess b c = true → Op.bytesLess a c = true
  | _, _, [] => by intro _ h; simp [Op.bytesLess] at h
  | _, [], _ :: _ => by intro h; simp [Op.bytesLess] at h
  | [], _ :: _, _ :: _ => by intro _ _; simp [Op.bytesLess]
  | a :: x, b :: y, c :: z => by
    intro h1 h2
    simp only [Op.bytesLess, Bool.or_eq_true, Bool.and_eq_true, decide_eq_true_eq, beq_iff_eq] at h1 h2 ⊢
    rcases h1 with h1 | ⟨rfl, h1⟩
    · rcases h2 with h2 | ⟨rfl, h2⟩
      · exact .inl (UInt8.lt_trans h1 h2)
      · exact .inl h1
    · rcases h2 with h2 | ⟨rfl, h2⟩
      · exact .inl h2
      · exact .inr ⟨rfl, bytesLess_trans _ _ _ h1 h2⟩
theorem bytesLess_total : ∀ a b, Op.bytesLess a b = false → Op.bytesLess b a = false → a = b
  | [], [] => fun _ _ => rfl
  | _ :: _, [] => by intro _ h; simp [Op.bytesLess] at h
  | [], _ :: _ => by intro h; simp [Op.bytesLess] at h
  | a :: x, b :: y => by
    intro h1 h2
    simp only [Op.bytesLess, Bool.or_eq_false_iff, decide_eq_false_iff_not, Bool.and_eq_false_iff] at h1 h2
    have hab : a = b := UInt8.le_antisymm (UInt8.not_lt.1 h2.1) (UInt8.not_lt.1 h1.1)
    subst hab
    simp at h1 h2
    rw [bytesLess_total x y h1 h2]

theorem toList_inj {a b : ByteArray} (h : a.toList = b.toList) : a = b := by
  rw [ByteArray.toList_eq, ByteArray.toList_eq] at h
  cases a; cases b
  simp only [ByteArray.mk.injEq]
  exact Array.toList_inj.1 h

theorem stoStr : STO ltStr where
  irrefl a := bytesLess_irrefl _
  trans a b c := bytesLess_trans _ _ _
  total a b h1 h2 := toList_inj (bytesLess_total _ _ h1 h2)

theorem gtrStr (a b : ByteArray) : (!(Op.bytesLess a.toList b.toList) && !(a.toList == b.toList)) = ltStr b a := by
  unfold ltStr
  cases h : Op.bytesLess a.toList b.toList with
  | true =>
    cases h2 : Op.bytesLess b.toList a.toList with
    | false => rfl
    | true => have := bytesLess_trans _ _ _ h h2; rw [bytesLess_irrefl] at this; cases this
  | false =>
    cases h2 : Op.bytesLess b.toList a.toList with
    | false => have := bytesLess_total _ _ h h2; simp [this]
    | true =>
      have : ¬ a.toList = b.toList := fun e => by rw [e, bytesLess_irrefl] at h2; cases h2
      simpa using this

theorem snan_c (x : ByteArray) (w : World) : Calls Try.prog 168 #[.string x] w fun e w' => e = .returned (.bool false) ∧ w = w' := by
  go_enter Try.func168, Try.ntmps168
  go_wp2
  go_ret
  exact ⟨by simp, rfl⟩

set_option maxRecDepth 100000 in
theorem scmp_c (x y : ByteArray) (w : World) : Calls Try.prog 144 #[.string x, .string y] w fun e w' => e = .returned (.int .i64 (cmpStr x y)) ∧ w = w' := by
  have hg := binOp_string_gtr
  have hr : cmpStr x y = if ltStr x y = true then -1 else if ltStr y x = true then 1 else 0 := rfl
  rw [hr]; clear hr
  have h1 : ∀ t, binOp .lss t (.string x) (.string y) = pure (.bool (ltStr x y)) := fun t => binOp_string_lss t x y
  have h2 : ∀ t, binOp .gtr t (.string x) (.string y) = pure (.bool (ltStr y x)) := fun t => by rw [binOp_string_gtr, gtrStr]
  clear hg
  generalize ltStr x y = p at *
  generalize ltStr y x = q at *
  cases p <;> cases q <;>
  · go_enter Try.func144, Try.ntmps144
    go_wp2_with (go_at_call 168; refine (snan_c _ _).mono ?_; rintro e w' ⟨rfl, rfl⟩)
    go_ret
    exact ⟨rfl, rfl⟩

end Go.Proofs.Ytmhkalalcmkpbaa

namespace Go.Proofs.Ytmhkalalcmkpbaa
open Go.RowKit
set_option linter.unusedVariables false
set_option linter.unusedSimpArgs false

/-- What by answers of an order. -/
def byL (p q : Bool) : Int := if p = true then -1 else if q = true then 1 else 0
theorem cmpI_zero (a b : Int) : cmpI a b = 0 ↔ a = b := by
  unfold cmpI; split <;> (try split) <;> constructor <;> intro h <;> omega
theorem ltS_iff (a b : Int × Int × Int) : ltS a b = true ↔ a.1 < b.1 ∨ (a.1 = b.1 ∧ (a.2.1 < b.2.1 ∨ (a.2.1 = b.2.1 ∧ a.2.2 < b.2.2))) := by unfold ltS; simp
theorem stoS : STO ltS where
  irrefl a := by
    rw [Bool.eq_false_iff]; intro h; rw [ltS_iff] at h; omega
  trans a b c h1 h2 := by
    rw [ltS_iff] at *; omega
  total a b h1 h2 := by
    rw [Bool.eq_false_iff] at h1 h2
    rw [ne_eq, ltS_iff] at h1 h2
    obtain ⟨a1, a2, a3⟩ := a
    obtain ⟨b1, b2, b3⟩ := b
    simp only at h1 h2
    have e1 : a1 = b1 := by omega
    have e2 : a2 = b2 := by omega
    have e3 : a3 = b3 := by omega
    rw [e1, e2, e3]

/-- A comparison as Go's packages know it: below zero, zero, above. -/
structure Cmps {α : Type} (c : α → α → Int) : Prop where
  zero : ∀ a b, c a b = 0 ↔ a = b
  flip : ∀ a b, c a b < 0 ↔ 0 < c b a
  trans : ∀ a b d, c a b < 0 → c b d < 0 → c a d < 0

theorem Cmps.sto {α : Type} {c : α → α → Int} (h : Cmps c) : STO (fun a b => decide (c a b < 0)) where
  irrefl a := by
    have := (h.zero a a).2 rfl
    simp [this]
  trans a b d h1 h2 := by
    simp only [decide_eq_true_eq] at *
    exact h.trans a b d h1 h2
  total a b h1 h2 := by
    simp only [decide_eq_false_iff_not] at *
    have := h.flip b a
    exact (h.zero a b).1 (by omega)

theorem Cmps.lex {α β γ : Type} {c : α → α → Int} {d : β → β → Int} (hc : Cmps c) (hd : Cmps d) (f : γ → α) (g : γ → β)
    (hi : ∀ x y, f x = f y → g x = g y → x = y) : Cmps (fun x y => orI (c (f x) (f y)) (d (g x) (g y))) where
  zero x y := by
    have h1 := hc.zero (f x) (f y)
    have h2 := hd.zero (g x) (g y)
    unfold orI
    constructor
    · intro h
      split at h
      · rename_i h0; exact hi x y (h1.1 h0) (h2.1 h)
      · rename_i h0; exact absurd h h0
    · intro h
      subst h
      rw [if_pos (h1.2 rfl)]
      exact h2.2 rfl
  flip x y := by
    have h1 := hc.flip (f x) (f y)
    have h1' := hc.flip (f y) (f x)
    have h2 := hd.flip (g x) (g y)
    unfold orI
    split <;> split <;> first | exact h2 | omega
  trans x y z := by
    have a1 := hc.zero (f x) (f y)
    have a2 := hc.zero (f y) (f z)
    have a3 := hc.zero (f x) (f z)
    have b := hc.trans (f x) (f y) (f z)
    have e := hd.trans (g x) (g y) (g z)
    unfold orI
    intro h1 h2
    split at h1 <;> split at h2
    · rename_i p q
      rw [if_pos (a3.2 ((a1.1 p).trans (a2.1 q)))]
      exact e h1 h2
    · rename_i p q
      have := a1.1 p
      rw [← this] at h2 q
      rw [if_neg q]; exact h2
    · rename_i p q
      have := a2.1 q
      rw [this] at h1 p
      rw [if_neg p]; exact h1
    · have := b h1 h2
      rw [if_neg (by omega)]; exact this

theorem cmpsI : Cmps cmpI where
  zero := cmpI_zero
  flip a b := by unfold cmpI; split <;> split <;> (try split) <;> omega
  trans a b d := by unfold cmpI; intro h1 h2; (repeat' split at h1) <;> (repeat' split at h2) <;> (try omega) <;> (repeat' split) <;> omega

theorem cmps_of_sto {α : Type} {lt : α → α → Bool} (h : STO lt) : Cmps (fun a b => byL (lt a b) (lt b a)) where
  zero a b := by
    unfold byL
    constructor
    · intro e
      cases h1 : lt a b with
      | true => rw [h1] at e; simp at e
      | false =>
        cases h2 : lt b a with
        | true => rw [h1, h2] at e; simp at e
        | false => exact h.total a b h1 h2
    · intro e; subst e; simp [h.irrefl a]
  flip a b := by
    unfold byL
    cases h1 : lt a b with
    | true => simp [h.asymm h1]
    | false => cases h2 : lt b a <;> simp
  trans a b d h1 h2 := by
    have g : ∀ a b, byL (lt a b) (lt b a) < 0 → lt a b = true := fun a b e => by
      cases h1 : lt a b with
      | true => rfl
      | false => rw [h1] at e; unfold byL at e; cases h2 : lt b a <;> rw [h2] at e <;> simp at e
    have := h.trans a b d (g a b h1) (g b d h2)
    simp [byL, this]

def byD (a b : Int × Int) : Int := byL (ltD a b) (ltD b a)
def byW (a b : Int × Int × Int) : Int := byL (ltS a b) (ltS b a)
def ordF (x y : FactT) : Int := orI (cmpStr x.2.2.2.1 y.2.2.2.1) (orI (cmpI x.2.2.1 y.2.2.1) (orI (byD x.1 y.1) (orI (byW x.2.1 y.2.1) (cmpStr x.2.2.2.2 y.2.2.2.2))))
def ltF (x y : FactT) : Bool := decide (ordF x y < 0)

theorem cmpsS : Cmps cmpStr := cmps_of_sto stoStr
theorem cmpsF : Cmps ordF := by
  have h4 : Cmps (fun (x y : (Int × Int × Int) × ByteArray) => orI (byW x.1 y.1) (cmpStr x.2 y.2)) := (cmps_of_sto stoS).lex cmpsS Prod.fst Prod.snd (fun x y h1 h2 => Prod.ext h1 h2)
  have h3 : Cmps (fun (x y : (Int × Int) × (Int × Int × Int) × ByteArray) => orI (byD x.1 y.1) (orI (byW x.2.1 y.2.1) (cmpStr x.2.2 y.2.2))) := (cmps_of_sto stoD).lex h4 Prod.fst Prod.snd (fun x y h1 h2 => Prod.ext h1 h2)
  have h2 : Cmps (fun (x y : Int × (Int × Int) × (Int × Int × Int) × ByteArray) => orI (cmpI x.1 y.1) (orI (byD x.2.1 y.2.1) (orI (byW x.2.2.1 y.2.2.1) (cmpStr x.2.2.2 y.2.2.2)))) := cmpsI.lex h3 Prod.fst Prod.snd (fun x y h1 h2 => Prod.ext h1 h2)
  exact cmpsS.lex h2 (fun x : FactT => x.2.2.2.1) (fun x => (x.2.2.1, x.1, x.2.1, x.2.2.2.2)) (fun x y h1 h2 => by
    obtain ⟨x1, x2, x3, x4, x5⟩ := x
    obtain ⟨y1, y2, y3, y4, y5⟩ := y
    simp only [Prod.mk.injEq] at h1 h2 ⊢
    exact ⟨h2.2.1, h2.2.2.1, h2.1, h1, h2.2.2.2⟩)
theorem stoF : STO ltF := cmpsF.sto
end Go.Proofs.Ytmhkalalcmkpbaa
