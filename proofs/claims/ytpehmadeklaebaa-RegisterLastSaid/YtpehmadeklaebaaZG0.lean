/-
  G0
-/
import Derived.Test.YtpehmadeklaebaaZE20
import Derived.Test.YtpehmadeklaebaaZGP
import Derived.Laws.StructEq
namespace Go.Proofs.Ytpehmadeklaebaa.V
open Go Go.RowKit
set_option linter.unusedVariables false
abbrev cInt : Ty := .int .i64
abbrev cDot : Ty := .pair cInt cInt
abbrev cStamp : Ty := .pair cInt (.pair cInt cInt)
abbrev cFact : Ty := .pair cDot (.pair cStamp (.pair cInt (.pair .str .str)))
abbrev cFacts : Ty := .list cFact
def TTa : List (TypeId × TI) :=
  [(4, { k := .bool, ag := false, sz := 1, code := some .bool, zs := [.bool false] }),
   (9, { k := .str, ag := false, sz := 1, code := some .str, zs := [.string ⟨#[]⟩] }),
   (5, { k := .int .u8, ag := false, sz := 1, code := some (.int .u8), zs := [.int .u8 0] }),
   (25, { k := .int .i64, ag := false, sz := 1, code := some (.int .i64), zs := [.int .i64 0] }),
   (50, { k := .sl 64 80, ag := false, sz := 1, code := some (.list (.pair (.pair (.int .i64) (.int .i64)) (.pair (.pair (.int .i64) (.pair (.int .i64) (.int .i64))) (.pair (.int .i64) (.pair .str .str))))), zs := [.slice none 0 0] }),
   (57, { k := .sl 9 16, ag := false, sz := 1, code := some (.list .str), zs := [.slice none 0 0] }),
   (207, { k := .sl 5 1, ag := false, sz := 1, code := some (.list (.int .u8)), zs := [.slice none 0 0] }),
   (33, { k := .sl 47 16, ag := false, sz := 1, code := some (.list (.pair (.int .i64) (.int .i64))), zs := [.slice none 0 0] }),
   (35, { k := .st [(0, 32), (16, 33)], ag := true, sz := 17, code := some (.pair (.arr 16 (.int .i64)) (.list (.pair (.int .i64) (.int .i64)))), zs := [.int .i64 0, .int .i64 0, .int .i64 0, .int .i64 0, .int .i64 0, .int .i64 0, .int .i64 0, .int .i64 0, .int .i64 0, .int .i64 0, .int .i64 0, .int .i64 0, .int .i64 0, .int .i64 0, .int .i64 0, .int .i64 0, .slice none 0 0] }),
   (62, { k := .st [(0, 3), (1, 3), (2, 3)], ag := true, sz := 3, code := some (.pair (.int .i64) (.pair (.int .i64) (.int .i64))), zs := [.int .i64 0, .int .i64 0, .int .i64 0] }),
   (134, { k := .sl 3 8, ag := false, sz := 1, code := some (.list (.int .i64)), zs := [.slice none 0 0] }),
   (137, { k := .st [(0, 3), (1, 3), (2, 3)], ag := true, sz := 3, code := some (.pair (.int .i64) (.pair (.int .i64) (.int .i64))), zs := [.int .i64 0, .int .i64 0, .int .i64 0] }),
   (64, { k := .st [(0, 47), (2, 62), (5, 3), (6, 9), (7, 9)], ag := true, sz := 8, code := some (.pair (.pair (.int .i64) (.int .i64)) (.pair (.pair (.int .i64) (.pair (.int .i64) (.int .i64))) (.pair (.int .i64) (.pair .str .str)))), zs := [.int .i64 0, .int .i64 0, .int .i64 0, .int .i64 0, .int .i64 0, .int .i64 0, .string ⟨#[]⟩, .string ⟨#[]⟩] }),
   (47, { k := .st [(0, 3), (1, 3)], ag := true, sz := 2, code := some (.pair (.int .i64) (.int .i64)), zs := [.int .i64 0, .int .i64 0] }),
   (32, { k := .arr 16 3, ag := true, sz := 16, code := some (.arr 16 (.int .i64)), zs := [.int .i64 0, .int .i64 0, .int .i64 0, .int .i64 0, .int .i64 0, .int .i64 0, .int .i64 0, .int .i64 0, .int .i64 0, .int .i64 0, .int .i64 0, .int .i64 0, .int .i64 0, .int .i64 0, .int .i64 0, .int .i64 0] }),
   (3, { k := .int .i64, ag := false, sz := 1, code := some (.int .i64), zs := [.int .i64 0] })]
theorem TTa_ok : AllTI Try.prog TTa :=
  ⟨tiok (by kernel_rfl) (kBool (by kernel_rfl)) (by kernel_rfl) ⟨rfl, rfl⟩,
   tiok (by kernel_rfl) (kStr (by kernel_rfl)) (by kernel_rfl) ⟨rfl, rfl⟩,
   tiok (by kernel_rfl) (kInt (by kernel_rfl)) (by kernel_rfl) ⟨rfl, rfl⟩,
   tiok (by kernel_rfl) (kInt (by kernel_rfl)) (by kernel_rfl) ⟨rfl, rfl⟩,
   tiok (by kernel_rfl) (kSl (by kernel_rfl) (by kernel_rfl)) (by kernel_rfl) ⟨rfl, rfl⟩,
   tiok (by kernel_rfl) (kSl (by kernel_rfl) (by kernel_rfl)) (by kernel_rfl) ⟨rfl, rfl⟩,
   tiok (by kernel_rfl) (kSl (by kernel_rfl) (by kernel_rfl)) (by kernel_rfl) ⟨rfl, rfl⟩,
   tiok (by kernel_rfl) (kSl (by kernel_rfl) (by kernel_rfl)) (by kernel_rfl) ⟨rfl, rfl⟩,
   tiok (by kernel_rfl) (kSt (by kernel_rfl) (by kernel_rfl)) (by kernel_rfl) ⟨rfl, rfl⟩,
   tiok (by kernel_rfl) (kSt (by kernel_rfl) (by kernel_rfl)) (by kernel_rfl) ⟨rfl, rfl⟩,
   tiok (by kernel_rfl) (kSl (by kernel_rfl) (by kernel_rfl)) (by kernel_rfl) ⟨rfl, rfl⟩,
   tiok (by kernel_rfl) (kSt (by kernel_rfl) (by kernel_rfl)) (by kernel_rfl) ⟨rfl, rfl⟩,
   tiok (by kernel_rfl) (kSt (by kernel_rfl) (by kernel_rfl)) (by kernel_rfl) ⟨rfl, rfl⟩,
   tiok (by kernel_rfl) (kSt (by kernel_rfl) (by kernel_rfl)) (by kernel_rfl) ⟨rfl, rfl⟩,
   tiok (by kernel_rfl) (kArr (by kernel_rfl)) (by kernel_rfl) ⟨rfl, rfl⟩,
   tiok (by kernel_rfl) (kInt (by kernel_rfl)) (by kernel_rfl) ⟨rfl, rfl⟩, trivial⟩
theorem mixP : Try.prog.follows .mixedOrders = true := by kernel_rfl
theorem eqD_ (d : Nat) (w : World) (a b : Int × Int) : (Op.equalIn (d + 2) 47 (.agg #[.int .i64 a.1, .int .i64 a.2]) (.agg #[.int .i64 b.1, .int .i64 b.2])).run Try.prog w = .ok (decide (a = b)) w := by
  obtain ⟨a1, a2⟩ := a
  obtain ⟨b1, b2⟩ := b
  rw [run_equalIn_struct w (d + 1) _ _ _ (by kernel_rfl) (by kernel_rfl)]
  go_simp
  by_cases h1 : a1 = b1 <;> by_cases h2 : a2 = b2 <;> simp [h1, h2]
theorem eqW_ (d : Nat) (w : World) (a b : Int × Int × Int) : (Op.equalIn (d + 2) 62 (.agg #[.int .i64 a.1, .int .i64 a.2.1, .int .i64 a.2.2]) (.agg #[.int .i64 b.1, .int .i64 b.2.1, .int .i64 b.2.2])).run Try.prog w = .ok (decide (a = b)) w := by
  obtain ⟨a1, a2, a3⟩ := a
  obtain ⟨b1, b2, b3⟩ := b
  rw [run_equalIn_struct w (d + 1) _ _ _ (by kernel_rfl) (by kernel_rfl)]
  go_simp
  by_cases h1 : a1 = b1 <;> by_cases h2 : a2 = b2 <;> by_cases h3 : a3 = b3 <;> simp [h1, h2, h3]
theorem eqF_ (w : World) (x y : (Int × Int) × (Int × Int × Int) × Int × ByteArray × ByteArray) : (Op.equalIn 10000 64 (.agg #[.int .i64 x.1.1, .int .i64 x.1.2, .int .i64 x.2.1.1, .int .i64 x.2.1.2.1, .int .i64 x.2.1.2.2, .int .i64 x.2.2.1, .string x.2.2.2.1, .string x.2.2.2.2]) (.agg #[.int .i64 y.1.1, .int .i64 y.1.2, .int .i64 y.2.1.1, .int .i64 y.2.1.2.1, .int .i64 y.2.1.2.2, .int .i64 y.2.2.1, .string y.2.2.2.1, .string y.2.2.2.2])).run Try.prog w = .ok (decide (x = y)) w := by
  obtain ⟨⟨x1, x2⟩, ⟨x3, x4, x5⟩, x6, x7, x8⟩ := x
  obtain ⟨⟨y1, y2⟩, ⟨y3, y4, y5⟩, y6, y7, y8⟩ := y
  have e1 := eqD_ 9997 w (x1, x2) (y1, y2)
  have e2 := eqW_ 9997 w (x3, x4, x5) (y3, y4, y5)
  rw [run_equalIn_struct w 9999 _ _ _ (by kernel_rfl) (by kernel_rfl)]
  go_simp
  have ts : ∀ a b : ByteArray, (a.toList = b.toList) = (a = b) := fun a b => propext ⟨ba_toList_inj, fun e => by rw [e]⟩
  simp only [ts]
  by_cases h1 : x1 = y1
  · by_cases h2 : x2 = y2
    · by_cases h3 : x3 = y3
      · by_cases h4 : x4 = y4
        · by_cases h5 : x5 = y5
          · by_cases h6 : x6 = y6
            · by_cases h7 : x7 = y7
              · by_cases h8 : x8 = y8 <;> simp [h1, h2, h3, h4, h5, h6, h7, h8]
              · simp [h1, h2, h3, h4, h5, h6, h7]
            · simp [h1, h2, h3, h4, h5, h6]
          · simp [h1, h2, h3, h4, h5]
        · simp [h1, h2, h3, h4]
      · simp [h1, h2, h3]
    · simp [h1, h2]
  · simp [h1]
def eqT (a : Ty) [DecidableEq a.T] : (a : Ty) × (a.T → a.T → Bool) := ⟨a, fun x y => decide (x = y)⟩
def QQ : EqT := [(47, eqT cDot), (62, eqT cStamp), (64, eqT cFact)]
theorem QQ_ok : AllQ Try.prog QQ :=
  ⟨⟨rfl, by kernel_rfl, fun x y => ⟨rfl, rfl, fun w => eqD_ 9998 w x y⟩⟩, ⟨rfl, by kernel_rfl, fun x y => ⟨rfl, rfl, fun w => eqW_ 9998 w x y⟩⟩, ⟨rfl, by kernel_rfl, fun x y => ⟨rfl, rfl, fun w => eqF_ w x y⟩⟩, trivial⟩
def EB0 : EB := ebOf TTa [] QQ
theorem EB0_ok {K : Prop} : EBok EB0 Try.prog K := ebOf_ok mixP TTa_ok trivial QQ_ok
end Go.Proofs.Ytpehmadeklaebaa.V
