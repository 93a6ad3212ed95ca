/-
  E18
-/
import Derived.Test.YtpehmadeklaebaaZE17
namespace Go.Proofs.Ytpehmadeklaebaa
open Go Go.RowKit
set_option linter.unusedVariables false
set_option linter.unusedSimpArgs false

/-- The slots that code writes, and reads. -/
def modd : Code → List Nat
  | .region _ ops _ => ops.toList.filterMap (·.dst)
  | .seq a b => modd a ++ modd b
  | .cond _ a b => modd a ++ modd b
  | .block _ c => modd c
  | .loop c => modd c
  | _ => []
def opT : Operand → List Nat
  | .tmp t => [t]
  | _ => []
def usesC : Code → List Nat
  | .region _ ops _ => ops.toList.flatMap opRds
  | .seq a b => usesC a ++ usesC b
  | .cond c a b => opT c ++ (usesC a ++ usesC b)
  | .block _ c => usesC c
  | .loop c => usesC c
  | _ => []
def usesI : List Item → List Nat
  | [] => []
  | .code c :: k => usesC c ++ usesI k
  | _ :: k => usesI k
def rvT : List ResultVar → List Nat
  | [] => []
  | .tmp t :: l => t :: rvT l
  | .cell t _ :: l => t :: rvT l
def memN : List Nat → Nat → Bool
  | [], _ => false
  | a :: l, t => Nat.beq a t || memN l t
def keepS (md us : List Nat) : List (Nat × EV) → List (Nat × EV)
  | [] => []
  | (d, v) :: l => bif !(memN md d) && memN us d then (d, v) :: keepS md us l else keepS md us l
def loopS (Y : EY) (c : Code) (k : List Item) (s : ES) (I : List (Nat × EV) × List EO) : ES := match s, I with
  | ⟨t, _⟩, (a, b) => ⟨a ++ keepS (modd c) (usesC c ++ (usesI k ++ rvT Y.rs)) t, b⟩
def forceS (s : ES) (K : ES → Tree) : Tree := match s with
  | ⟨t, h⟩ => goT t fun t => objsK h fun h => K ⟨t, h⟩
where goT : List (Nat × EV) → (List (Nat × EV) → Tree) → Tree
  | [], K => K []
  | (d, v) :: l, K => goT l fun l => K ((d, v) :: l)
theorem forceS_eq (s : ES) (K : ES → Tree) : forceS s K = K s := by
  have h : ∀ (l : List (Nat × EV)) (K : List (Nat × EV) → Tree), forceS.goT l K = K l := by
    intro l
    induction l with
    | nil => intro K; rfl
    | cons p l ih => intro K; obtain ⟨d, v⟩ := p; simp only [forceS.goT, ih]
  obtain ⟨t, o⟩ := s
  unfold forceS
  simp only [h, objsK_eq]
def freshM (d : Nat) : List Item → Bool
  | [] => true
  | .mark j :: k => !(Nat.beq j d) && freshM d k
  | _ :: k => freshM d k
def backB (E : EC) (R : ES → Prop) (B : Nat → ES → Prop) (d : Nat) (X : ES → Prop) : Nat → ES → Prop := fun j s => bif Nat.beq j d then X s else B j s

section
variable {E : EC} {B : Nat → ES → Prop} {R : ES → Prop} {m : Nm} {Y : EY} {s : ES}
mutual
theorem iw_fresh {d : Nat} {X : ES → Prop} : ∀ {k : List Item} {s : ES}, freshM d k = true → IW E (backB E R B d X) R k s → IW E B R k s
  | [], s, _, h => h
  | .code c :: k, s, hf, h => by
    unfold IW at h ⊢
    refine h.mono fun e s' hq => ?_
    cases e with
    | normal => exact iw_fresh hf hq
    | exit i => exact exit_fresh hf hq
    | ret => exact hq
    | _ => exact hq
  | .block _ :: k, s, hf, h => iw_fresh (k := k) hf h
  | .mark j :: k, s, hf, h => by
    simp only [freshM, Bool.and_eq_true, Bool.not_eq_true'] at hf
    unfold IW backB at h
    rw [hf.1] at h
    exact h
theorem exit_fresh {d : Nat} {X : ES → Prop} : ∀ {k : List Item} {i : Nat} {s : ES}, freshM d k = true → exitTo E (backB E R B d X) R k i s → exitTo E B R k i s
  | [], i, s, _, h => h
  | .block j :: k, i, s, hf, h => by
    unfold exitTo at h ⊢
    cases hc : Nat.beq i j with
    | true => rw [hc] at h; exact iw_fresh (k := k) hf h
    | false => rw [hc] at h; exact exit_fresh (k := k) hf h
  | .code c :: k, i, s, hf, h => by
    unfold exitTo at h ⊢
    exact exit_fresh (k := k) hf h
  | .mark j :: k, i, s, hf, h => by
    simp only [freshM, Bool.and_eq_true] at hf
    unfold exitTo at h ⊢
    exact exit_fresh (k := k) hf.2 h
end
theorem ew_sub {c : Code} {Q : Exit → ES → Prop} {s s' : ES} (hs : ∀ m a w, E.toCx.St (s.den m) a w → E.toCx.St (s'.den m) a w) (h : EW E c Q s') : EW E c Q s := ⟨fun m hm a w h' => h.run m hm a w (hs m a w h')⟩
/-- A loop, by what holds at its head. -/
theorem e_loop (hY : EYok Y E) {c : Code} {k : List Item} (d : Nat) (hf : freshM d k = true) {α : Type} (I : α → List (Nat × EV) × List EO) (ok : α → Prop) (μ : α → Nat) (a0 : α) (h0 : ok a0) (hs : (subT s (loopS Y c k s (I a0)) .done).ok E B R)
    (hb : ∀ a, ok a → IW E (backB E R B d fun s' => ∃ a', ok a' ∧ μ a' < μ a ∧ (subT s' (loopS Y c k s (I a')) .done).ok E B R) R (.code c :: .mark d :: k) (loopS Y c k s (I a))) : IW E B R (.code (.loop c) :: k) s := by
  unfold IW
  refine ew_sub (subT_ok hs).2 ⟨fun m hm => ?_⟩
  refine aw_loop (fun n st => ∃ a m', st = (loopS Y c k s (I a)).den m' ∧ Agr E.n0 E.ks E.m0 m' ∧ ok a ∧ μ a = n) ⟨_, _, ⟨a0, m, rfl, hm, h0, rfl⟩, ⟨[], by simp⟩, fun t => .inr rfl⟩ ?_
  rintro n st ⟨a, m', rfl, hm', ha, rfl⟩
  have h1 := hb a ha
  unfold IW at h1
  intro act w hst
  refine wp_mono (h1.run m' hm' act w hst) fun e act' w' hq => ?_
  obtain ⟨st', hst', m2, es, rfl, hm2, h4⟩ := hq
  cases e with
  | normal =>
    simp only [onE] at h4
    unfold IW backB at h4
    rw [show Nat.beq d d = true by simp] at h4
    obtain ⟨a', ha', hlt, hsub⟩ := h4
    exact ⟨_, (subT_ok hsub).2 m2 act' w' hst', ⟨μ a', _, hlt, ⟨a', m2, rfl, hm2, ha', rfl⟩, ⟨[], by simp⟩, fun t => .inr rfl⟩⟩
  | exit i =>
    simp only [onE] at h4
    unfold exitTo at h4
    exact ⟨_, hst', m2, es, rfl, hm2, exit_fresh hf h4⟩
  | ret => exact ⟨_, hst', m2, es, rfl, hm2, h4⟩
  | _ => exact h4.elim
theorem e_back {d : Nat} {α : Type} {ok : α → Prop} {μ : α → Nat} {a : α} {F : α → Tree} (a' : α) (h1 : ok a') (h2 : μ a' < μ a) (h3 : (F a').ok E B R) : backB E R B d (fun s' => ∃ a', ok a' ∧ μ a' < μ a ∧ (F a').ok E B R) d s := by
  unfold backB
  rw [show Nat.beq d d = true by simp]
  exact ⟨a', h1, h2, h3⟩
/-- Code, step by step. -/
theorem e_run (hY : EYok Y E) (n : Nat) {it : List Item} (hg : goods Y it = true) (h : (forceS s fun s => run Y n it s).ok E B R) : IW E B R it s := by
  rw [forceS_eq] at h
  exact run_ok hY n hg h

/-- Results. -/
def res1K (X : EX) (s : ES) (r : ResultVar) (K : EV → Tree) : Tree :=
  match r with
  | .tmp t => findK s.t t K
  | .cell t T => findK s.t t fun p => match p with
    | .own i [] => nthK s.h i fun o => match o with
      | .cell _ c => tiK X.T T fun ti => getP c [] ti.ag ti.sz fun u => typK ti.code u K
      | _ => .bad 170
    | _ => .bad 171
def viewR (h : List EO) (v : EV) (K : EV → Tree) : Tree :=
  match v with
  | .row i => nthK h i fun o => match o with
    | .row _ a l => K (.td (.list a) l)
    | _ => .bad 172
  | v => K v
def resP (X : EX) (s : ES) : List ResultVar → List EV → Tree
  | [], [] => .done
  | r :: l, v :: vs => res1K X s r fun u => viewR s.h u fun u => bif v.bw 0 then sameK u v (resP X s l vs) else .bad 173
  | _, _ => .bad 174
def retE : List EV → EV
  | [v] => v
  | l => .tup l

theorem res1_ok {X : EX} (hX : EXok X E.P E.w0.K) {r : ResultVar} {v : EV} {T : Tree} (h : (res1K X s r fun u => viewR s.h u fun u => bif v.bw 0 then sameK u v T else .bad 173).ok E B R) : T.ok E B R ∧ v.bw 0 = true ∧ ∀ m, RG E.P E.N E.X (s.den m) r (v.den m) := by
  -- a value that is viewed gives what is told
  have fin : ∀ (u : EV), (viewR s.h u fun u => bif v.bw 0 then sameK u v T else .bad 173).ok E B R → T.ok E B R ∧ v.bw 0 = true ∧ ∀ m, Gives E.X (EO.denL m 0 s.h) (u.den m) (v.den m) := fun u h => by
    have fin2 : ∀ u', (bif v.bw 0 then sameK u' v T else .bad 173).ok E B R → T.ok E B R ∧ v.bw 0 = true ∧ ∀ m, Sub (u'.den m) (v.den m) := fun u' h => by
      cases hc : v.bw 0 with
      | false => rw [hc] at h; exact h.elim
      | true =>
        rw [hc] at h
        obtain ⟨h1, h2⟩ := sameK_ok u' v T h
        exact ⟨h1, rfl, fun m => (h2 m).1⟩
    unfold viewR at h
    split at h
    · have key : ∀ m, T.ok E B R ∧ v.bw 0 = true ∧ Gives E.X (EO.denL m 0 s.h) ((EV.row _).den m) (v.den m) := fun m => by
        obtain ⟨o, h1, h2, h3⟩ := nthK_mem (m := m) h
        split at h3
        · obtain ⟨g1, g2, g3⟩ := fin2 _ h3
          exact ⟨g1, g2, (gives_row h2).sub (g3 m)⟩
        · exact h3.elim
      exact ⟨(key ⟨fun _ => 0, fun _ => undef⟩).1, (key ⟨fun _ => 0, fun _ => undef⟩).2.1, fun m => (key m).2.2⟩
    · obtain ⟨g1, g2, g3⟩ := fin2 _ h
      exact ⟨g1, g2, fun m => gives_sub (g3 m)⟩
  unfold res1K at h
  split at h
  · obtain ⟨u, h1, h2⟩ := findK_all h
    obtain ⟨g1, g2, g3⟩ := fin u h1
    refine ⟨g1, g2, fun m => rg_tmp ?_⟩
    show Gives E.X (EO.denL m 0 s.h) (slotsOf m s.t _) _
    rw [h2]; exact g3 m
  · rename_i t T0
    have key : ∀ m, T.ok E B R ∧ v.bw 0 = true ∧ RG E.P E.N E.X (s.den m) (.cell t T0) (v.den m) := fun m => by
      obtain ⟨p, h1, h2⟩ := findK_ok (m := m) h
      split at h1
      · obtain ⟨o, g1, g2, g3⟩ := nthK_mem (m := m) h1
        split at g3
        · obtain ⟨ti, t1, g4⟩ := tiK_at hX g3
          obtain ⟨u, g5, g6⟩ := getP_ok (m := m) _ _ _ _ _ g4
          obtain ⟨u', g7, g8⟩ := typK_ok (m := m) g5
          obtain ⟨q1, q2, q3⟩ := fin u' g7
          refine ⟨q1, q2, rg_cell (av := u.den m) h2 g2 t1.ty ?_ ?_⟩
          · rcases g6 with ⟨a1, a2, a3⟩ | ⟨a1, a2⟩
            · simp only [poff, Nat.zero_add] at a2 a3
              exact .inl ⟨a1, a2, by rw [a3, List.drop_zero]⟩
            · exact .inr ⟨a1, a2⟩
          · intro w0 w val env hr
            exact q3 m w0 w val env (g8 _ _ _ hr)
        · exact g3.elim
      · exact h1.elim
    exact ⟨(key ⟨fun _ => 0, fun _ => undef⟩).1, (key ⟨fun _ => 0, fun _ => undef⟩).2.1, fun m => (key m).2.2⟩
end
end Go.Proofs.Ytpehmadeklaebaa
